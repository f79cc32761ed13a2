/- Layer 7, the document's answer: conjugates, transposes. -/
import Derived.Test.YtdkcdcbbpebgmaaRM3
import Derived.Test.YtdkcdcbbpebgmaaMX12
import Derived.Test.YtdkcdcbbpebgmaaMX15
import Derived.Test.YtdkcdcbbpebgmaaApL
import Derived.Test.YtdkcdcbbpebgmaaMX18
import Derived.Test.YtdkcdcbbpebgmaaMX3
import Derived.IntWalk
import Derived.BigQuiet
namespace Go.Proofs.Ytdkcdcbbpebgmaa
open Go.RowKit Fl Ieee
set_option maxRecDepth 20000
attribute [local go_sem] run_store_float run_store_complex
theorem rConj_C (z : C) (hz : ltC z) (w : World) : Calls Try.prog 86 #[.complex .f64 z.1 z.2] w (RetC (pConj (cnC z)) w) :=
  (rConj_c z.1 z.2 hz.2 w).mono fun _ _ ⟨he, hw⟩ => ⟨z.1, flip double z.2, 0, he, Prod.ext rfl (cn_flip hz.2), hz.1, flip_lt64 hz.2, by rw [← hw]; rfl⟩
theorem rConj_no (r c : Int) (A : Option Addr) (n cap : Nat) (w : World) (h : okM r c n = false) :
    Calls Try.prog 39 #[mval r c (.slice A n cap)] w (RetMxE 0 0 [] 4 w) := by
  have HC := Lib.hid (rIs_c r c A n cap)
  rw [h] at HC
  go_enter Try.func39, Try.ntmps39
  go_wp2_with fail
  refine (HC.out _).mono ?_
  rintro e W1 ⟨rfl, hb⟩
  obtain ⟨⟨b0, b1, b2⟩, hrow, hbl, hs1⟩ := frame1 hb
  obtain ⟨r0, r1, r2, fr⟩ := box3 hrow
  have f0 := fr 0
  have f1 := fr 1
  have f2 := fr 2
  have HB := Lib.hid hbl
  clear hb hbl hrow fr h hs1
  go_wp2
  obtain ⟨q0, q1, q2⟩ := set3 (u := .int .i64 0) (v := .int .i64 0) (t := .slice none 0 0) r0 r1 r2
  refine bodyPost_ret (v := .tuple #[mval 0 0 (.slice none 0 0), .int .i64 4]) (by simp [results, Try.results39, go_sem, q0, q1, q2]) rfl ?_
  exact close_mx (zs := []) rfl (by simp [ltCs]) (World.ownsRow_nil _ _ _ _) HB.out (by omega)
set_option maxHeartbeats 2000000 in
theorem rConj_of (rows cols N : Nat) (A : Option Addr) (la : List C) (capa : Nat) (w : World) (hr : rows ≤ 64) (hc : cols ≤ 64) (hN : rows * cols = N) (hla : la.length = N) (hlt : ltCs la)
    (hA : Reads w w.heap.size A (nums la)) :
    Calls Try.prog 39 #[mval rows cols (.slice A N capa)] w (RetMxE rows cols ((List.range N).map fun q => pConj (cnC (la.getD q (0, 0)))) 0 w) := by
  have hN4 : N ≤ 4096 := hN ▸ prod_small hr hc
  have HC := Lib.hid (rIs_c rows cols A N capa)
  have ho : okM rows cols N = true := okM_iff.2 ⟨by omega, by omega, by omega, by omega, by rw [← hN, Int.natCast_mul]⟩
  rw [ho] at HC
  have HBl := Lib.hid (fun W => Blank_of rows cols N hN4 (by rw [← Int.natCast_mul, hN]; exact wrap_small _ hN4) W)
  have HLa := Lib.hid hla
  have HLt := Lib.hid hlt
  have HA := Lib.hid hA
  have HN4 := Lib.hid hN4
  clear ho hla hlt hA hN hN4 hr hc
  go_enter Try.func39, Try.ntmps39
  go_wp2_with fail
  refine (HC.out _).mono ?_
  rintro e W1 ⟨rfl, hb⟩
  obtain ⟨⟨b0, b1, b2⟩, hrow, hbl, hs1⟩ := frame1 hb
  have HRow2 := Lib.hid hrow
  have HB2 := Lib.hid hbl
  have HS2 := Lib.hid hs1
  have HX2 := Lib.hid (And.intro b0 (And.intro b1 b2))
  clear hb hbl hrow hs1
  go_wp2_with fail
  refine (HBl.out _).mono ?_
  rintro e W3 ⟨g, rfl, hg, hgl, hb3⟩
  have l0 : w.heap.size < W1.heap.size := by have := HS2.out; omega
  have HG := Lib.hid (show w.heap.size + 1 < g by have := HS2.out; omega)
  have HG2 := Lib.hid (row_lt hg)
  have HX3 := Lib.hid (Box.below (W := W1) HX2.out hb3 l0)
  have HS3 := Lib.hid (Nat.le_trans HS2.out hb3.size)
  have HB3 := Lib.hid (HB2.out.trans (hb3.mono (Nat.le_of_lt l0)))
  have HW := Lib.hid (FillW.start (F := upto (fun q => pConj (cnC (la.getD q (0, 0)))) 0) (r := (rows : Nat)) (c := (cols : Nat)) hg (row_keep hb3 HRow2.out) HB3.out (fun q _ => by unfold upto; rw [if_neg (Nat.not_lt_zero _)]))
  clear hg hgl hb3 l0 b0 b1 b2 HX2 HS2 HB2 HRow2
  go_wp2
  go_loopw [5] (fun i wr => ∃ k : Nat, k ≤ N ∧ i = .int .i64 (k : Nat) ∧ Below (w.heap.size + 1) W3 wr ∧ FillW w (w.heap.size + 1) W3.heap.size g rows cols N (upto (fun q => pConj (cnC (la.getD q (0, 0)))) k) wr) (fun i _ => N - (intOf i).toNat)
  case atStart => exact ⟨0, Nat.zero_le _, rfl, (below_new _ _).mono (by have := HS3.out; omega), HW.out⟩
  case round =>
    obtain ⟨k, hk, rfl, hbw, hf⟩ := hrel
    have HF := Lib.hid hf
    have HBW := Lib.hid hbw
    clear hf hbw
    by_cases hlt : k < N
    · have hlti : (k : Int) < (N : Int) := by omega
      have hkb : k < 4611686018427387904 := by have := HN4.out; omega
      obtain ⟨za, hza⟩ := some_of_lt (l := la) (k := k) (by rw [HLa.out]; exact hlt)
      have hE : (fun q => pConj (cnC (la.getD q (0, 0)))) k = pConj (cnC za) := by
        simp only [List.getD_eq_getElem?_getD, hza, Option.getD_some]
      have HE := Lib.hid hE
      have hva : (nums la)[k]? = some (.complex .f64 za.1 za.2) := by simp [nums, hza]
      have hW3 : Below w.heap.size w wr := HB3.out.trans (HBW.out.mono (by omega))
      obtain ⟨ada, rfl, hba, hca⟩ := (HA.out.below hW3).at_ hva
      have hsz : w.heap.size + 2 ≤ wr.heap.size := Nat.le_trans HS3.out HBW.out.size
      have hkeep : ∀ V, Below wr.heap.size wr V → (V.cell? ⟨w.heap.size, 2, none⟩ = some (.slice (some ada) N capa) ∧ V.cell? ⟨W3.heap.size, 2, none⟩ = some (.slice (some ⟨g, 0, none⟩) N N)) ∧
          V.cell? (ada.add k) = some (.complex .f64 za.1 za.2) ∧ (∃ u, V.cell? ⟨g, k, none⟩ = some u) ∧ V.frozen? ⟨g, k, none⟩ = false := fun V hV => by
        have hV2 := HBW.out.trans (hV.mono (by omega))
        have hF2 := HF.out.below hV
        obtain ⟨-, -, x3⟩ := hF2.cells
        obtain ⟨x4, x5⟩ := hF2.place hlt
        exact ⟨⟨(Box.below (W := W3) HX3.out hV2 (by omega)).2.2, x3⟩,
          (hV.cell (p := ada.add k) (by rw [block_of_add]; omega)).trans hca, x4, x5⟩
      have hkeep2 : ∀ V v, Below wr.heap.size wr V → ((V.setCell ⟨g, k, none⟩ v).cell? ⟨w.heap.size, 2, none⟩ = some (.slice (some ada) N capa) ∧ (V.setCell ⟨g, k, none⟩ v).cell? ⟨W3.heap.size, 2, none⟩ = some (.slice (some ⟨g, 0, none⟩) N N)) ∧
          (V.setCell ⟨g, k, none⟩ v).cell? (ada.add k) = some (.complex .f64 za.1 za.2) ∧ (∃ u, (V.setCell ⟨g, k, none⟩ v).cell? ⟨g, k, none⟩ = some u) ∧ (V.setCell ⟨g, k, none⟩ v).frozen? ⟨g, k, none⟩ = false := fun V v hV => by
        obtain ⟨⟨y1, y3⟩, y4, ⟨u, y6⟩, y7⟩ := hkeep V hV
        have hg1 := HG.out
        have hg2 := HG2.out
        have no : ∀ p : Addr, p.block ≠ g → (V.setCell ⟨g, k, none⟩ v).cell? p = V.cell? p := fun p hp => World.cell?_setCell_other _ _ _ _ (fun e => hp (by rw [← e]))
        exact ⟨⟨(no _ (by show w.heap.size ≠ g; omega)).trans y1 , (no _ (by show W3.heap.size ≠ g; omega)).trans y3⟩, (no _ (by rw [block_of_add]; omega)).trans y4, ⟨_, World.cell?_setCell_same _ _ _ y6⟩, by rw [World.frozen?_setCell]; exact y7⟩
      have HK := Lib.hid hkeep
      have HK2 := Lib.hid hkeep2
      have hlz := HLt.out za (List.mem_of_getElem? hza)
      have HCj := Lib.hid (fun V => rConj_C za hlz V)
      obtain ⟨⟨x1, x3⟩, x4, ⟨u, x6⟩, x7⟩ := hkeep wr (Below.refl _ _)
      clear hkeep hkeep2 hza hE hva hW3 hba hca hlz
      go_wp2_with fail
      go_region_held3 (fun V => (V.cell? ⟨w.heap.size, 2, none⟩ = some (.slice (some ada) N capa) ∧ V.cell? ⟨W3.heap.size, 2, none⟩ = some (.slice (some ⟨g, 0, none⟩) N N)) ∧
          V.cell? (ada.add k) = some (.complex .f64 za.1 za.2) ∧ (∃ u, V.cell? ⟨g, k, none⟩ = some u) ∧ V.frozen? ⟨g, k, none⟩ = false)
        (first
        | (with_reducible refine HK2.out _ _ ?_; (repeat (first | with_reducible assumption | with_reducible refine Below.drew ?_ | with_reducible exact Below.refl _ _)); done)
        | (with_reducible refine HK.out _ ?_; (repeat (first | with_reducible assumption | with_reducible refine Below.new ?_ (Nat.le_refl _) _ | with_reducible refine Below.drew ?_ | with_reducible exact Below.refl _ _)); done))
        (first
        | (go_at_call 86; (with_reducible refine (from_c (B := wr.heap.size) (w := wr) (HCj.out _) ?_).mono ?_); (repeat (first | with_reducible assumption | with_reducible refine Below.new ?_ (Nat.le_refl _) _ | with_reducible refine Below.drew ?_ | with_reducible exact Below.refl _ _)); (rintro e V ⟨x, rfl, hx, lx, hV⟩); (obtain ⟨⟨y1, y3⟩, y4, ⟨u', y6⟩, y7⟩ := HK.out V hV)))
      all_goals
        have HVV := Lib.hid hV
        have HXX := Lib.hid hx
        have HLX := Lib.hid lx
        clear hV hx lx x1 x3 x4 x6 x7 y1 y3 y4 y6 y7 HK HK2
        go_wp2
        go_roundw
        case rel =>
          refine ⟨k + 1, hlt, by go_num, ?_, ?_⟩
          · exact (HBW.out.trans (HVV.out.mono (by omega))).setCell (Nat.le_of_lt HG.out) _
          · exact (HF.out.below HVV.out).set hlt HLX.out (fun q _ => upto_step (by rw [HE.out]; exact HXX.out)) (by have := HG.out; omega) (Nat.ne_of_lt HG.out) (Nat.ne_of_gt HG2.out)
        case measure => simp [intOf]; omega
    · have e : k = N := by omega
      subst e
      have hlti : ((k : Int) < (k : Int)) = False := by simp
      obtain ⟨x, y, z⟩ := HF.out.cells
      have HR2 : wr.heap[w.heap.size + 1]? = some zrow := by obtain ⟨zs, _, _, _, _, h5, _⟩ := HF.out; exact h5
      obtain ⟨r0, r1, r2, fr⟩ := box3 HR2
      have f0 := fr 0
      have f1 := fr 1
      have f2 := fr 2
      clear fr
      go_wp2
      obtain ⟨q0, q1, q2⟩ := set3 (u := .int .i64 (rows : Nat)) (v := .int .i64 (cols : Nat)) (t := .slice (some ⟨g, 0, none⟩) k k) r0 r1 r2
      refine bodyPost_ret (v := .tuple #[mval rows cols (.slice (some ⟨g, 0, none⟩) k k), .int .i64 0]) (by simp [results, Try.results39, go_sem, q0, q1, q2]) rfl ?_
      have h := HF.out.close (er := 0) (by omega) HG.out rfl HN4.out
      rwa [upto_end] at h
theorem rMConj_c (rows cols : Nat) (A : Option Addr) (l : List C) (cap : Nat) (w : World) (hr : rows ≤ 64) (hc : cols ≤ 64) (hl : l.length = rows * cols) (hrd : Reads w w.heap.size A (nums l)) (hlt : ltCs l) :
    Calls Try.prog 39 #[mval rows cols (.slice A l.length cap)] w (RetMxE rows cols (entries cols (fun i j => pConj (ent l cols i j)) (rows * cols)) 0 w) := by
  have h := rConj_of rows cols (rows * cols) A l cap w hr hc rfl hl hlt hrd
  rw [hl]
  rwa [show (List.range (rows * cols)).map (fun q => pConj (cnC (l.getD q (0, 0)))) = entries cols (fun i j => pConj (ent l cols i j)) (rows * cols) from
    List.map_congr_left fun q _ => by unfold entry; show _ = pConj (ent l cols (q / cols) (q % cols)); rw [ent_self]] at h
theorem rTranspose_no (r c : Int) (A : Option Addr) (n cap : Nat) (w : World) (h : okM r c n = false) :
    Calls Try.prog 38 #[mval r c (.slice A n cap)] w (RetMxE 0 0 [] 4 w) := by
  have HC := Lib.hid (rIs_c r c A n cap)
  rw [h] at HC
  go_enter Try.func38, Try.ntmps38
  go_wp2_with fail
  refine (HC.out _).mono ?_
  rintro e W1 ⟨rfl, hb⟩
  obtain ⟨⟨b0, b1, b2⟩, hrow, hbl, hs1⟩ := frame1 hb
  obtain ⟨r0, r1, r2, fr⟩ := box3 hrow
  have f0 := fr 0
  have f1 := fr 1
  have f2 := fr 2
  have HB := Lib.hid hbl
  clear hb hbl hrow fr h hs1
  go_wp2
  obtain ⟨q0, q1, q2⟩ := set3 (u := .int .i64 0) (v := .int .i64 0) (t := .slice none 0 0) r0 r1 r2
  refine bodyPost_ret (v := .tuple #[mval 0 0 (.slice none 0 0), .int .i64 4]) (by simp [results, Try.results38, go_sem, q0, q1, q2]) rfl ?_
  exact close_mx (zs := []) rfl (by simp [ltCs]) (World.ownsRow_nil _ _ _ _) HB.out (by omega)
/-- Columns below i are laid, and of column i the first j places (of a matrix of r columns). -/
def tF (E : Nat → C) (r i j q : Nat) : C := if q % r < i ∨ (q % r = i ∧ q / r < j) then E q else (0, 0)
theorem tF_step {E : Nat → C} {r i j q : Nat} {v : C} (hi : i < r) (h : v = E (j * r + i)) : tF E r i (j + 1) q = if q = j * r + i then v else tF E r i j q := by
  unfold tF
  have hd := Nat.div_add_mod q r
  by_cases h1 : q = j * r + i
  · have e1 : q / r = j := by rw [h1]; exact (Nat.div_eq_of_lt_le (by omega) (by rw [Nat.add_mul]; omega))
    have e2 : q % r = i := by rw [h1, Nat.mul_comm, Nat.mul_add_mod, Nat.mod_eq_of_lt hi]
    rw [if_pos h1, if_pos (.inr ⟨e2, by omega⟩), h, h1]
  · rw [if_neg h1]
    have hne : ¬ (q % r = i ∧ q / r = j) := fun ⟨a, b⟩ => h1 (by rw [← hd, a, b, Nat.mul_comm])
    by_cases h2 : q % r < i ∨ (q % r = i ∧ q / r < j)
    · rw [if_pos h2, if_pos (by omega)]
    · rw [if_neg h2, if_neg (by omega)]
theorem tF_row {E : Nat → C} {r c i q : Nat} (hq : q < c * r) : tF E r i c q = tF E r (i + 1) 0 q := by
  unfold tF
  have hlt : q / r < c := Nat.div_lt_of_lt_mul (by rw [Nat.mul_comm]; exact hq)
  generalize q / r = x at hlt ⊢
  generalize q % r = y at hlt ⊢
  by_cases h1 : y < i ∨ (y = i ∧ x < c)
  · rw [if_pos h1, if_pos (by omega)]
  · rw [if_neg h1, if_neg (by omega)]
theorem tF_zero (E : Nat → C) (r q : Nat) : tF E r 0 0 q = (0, 0) := by
  unfold tF
  generalize q / r = x
  generalize q % r = y
  rw [if_neg (by omega)]
theorem tF_end {E : Nat → C} {r c q : Nat} (hq : q < c * r) : tF E r r 0 q = E q := by
  unfold tF
  have h0 : 0 < r := by
    rcases Nat.eq_zero_or_pos r with h | h
    · subst h; simp at hq
    · exact h
  rw [if_pos (.inl (Nat.mod_lt _ h0))]
theorem wrap_i (x : Nat) (h : x ≤ 4096) : IntKind.i64.wrap (x : Int) = (x : Int) := by rw [IntWalk.i64_left]; exact wrap_small x h
set_option maxHeartbeats 2000000 in
theorem rTranspose_of (rows cols N : Nat) (A : Option Addr) (la : List C) (capa : Nat) (w : World) (hr : rows ≤ 64) (hc : cols ≤ 64) (hN : cols * rows = N) (hla : la.length = rows * cols) (hlt : ltCs la)
    (hA : Reads w w.heap.size A (nums la)) (E : Nat → C) (hE : E = entry rows fun i j => ent la cols j i) :
    Calls Try.prog 38 #[mval rows cols (.slice A la.length capa)] w (RetMxE cols rows ((List.range N).map E) 0 w) := by
  have hN4 : N ≤ 4096 := hN ▸ prod_small hc hr
  have HC := Lib.hid (rIs_c rows cols A la.length capa)
  rw [okN hr hc hla] at HC
  have HBl := Lib.hid (fun W => Blank_of cols rows N hN4 (by rw [← Int.natCast_mul, hN]; exact wrap_small _ hN4) W)
  have hEA : ∀ (i j : Nat) (V : World), i < rows → j < cols → Below w.heap.size w V → Calls Try.prog 70 #[mval rows cols (.slice A la.length capa), .int .i64 (i : Nat), .int .i64 (j : Nat)] V (RetV (.complex .f64 (la.getD (i * cols + j) (0, 0)).1 (la.getD (i * cols + j) (0, 0)).2) V) := fun i j V hi hj hV =>
    rEnt_e rows cols A la capa i j V hla hr hc hi hj ((hA.below hV).more hV.size)
  have HEA := Lib.hid hEA
  have HLa := Lib.hid hla
  have HLt := Lib.hid hlt
  have HN := Lib.hid hN
  have HN4 := Lib.hid hN4
  have HRw := Lib.hid hr
  have HCl := Lib.hid hc
  have HE := Lib.hid hE
  clear hla hlt hA hN hN4 hr hc hEA hE
  go_enter Try.func38, Try.ntmps38
  go_wp2_with fail
  refine (HC.out _).mono ?_
  rintro e W1 ⟨rfl, hb⟩
  obtain ⟨⟨b0, b1, b2⟩, hrow, hbl, hs1⟩ := frame1 hb
  have HRow2 := Lib.hid hrow
  have HB2 := Lib.hid hbl
  have HS2 := Lib.hid hs1
  have HX2 := Lib.hid (And.intro b0 (And.intro b1 b2))
  clear hb hbl hrow hs1
  go_wp2_with fail
  refine (HBl.out _).mono ?_
  rintro e W3 ⟨g, rfl, hg, hgl, hb3⟩
  have l0 : w.heap.size < W1.heap.size := by have := HS2.out; omega
  have HG := Lib.hid (show w.heap.size + 1 < g by have := HS2.out; omega)
  have HG2 := Lib.hid (row_lt hg)
  have HX3 := Lib.hid (Box.below (W := W1) HX2.out hb3 l0)
  have HS3 := Lib.hid (Nat.le_trans HS2.out hb3.size)
  have HB3 := Lib.hid (HB2.out.trans (hb3.mono (Nat.le_of_lt l0)))
  have HW := Lib.hid (FillW.start (F := tF E rows 0 0) (r := (cols : Nat)) (c := (rows : Nat)) hg (row_keep hb3 HRow2.out) HB3.out (fun q _ => tF_zero E rows q))
  clear hg hgl hb3 l0 b0 b1 b2 HX2 HS2 HB2 HRow2 HBl HC
  have c3 := HX3.out
  obtain ⟨b0, b1, b2⟩ := c3
  go_wp2
  go_loopw [5] (fun iv wr => ∃ i : Nat, i ≤ rows ∧ iv = .int .i64 (i : Nat) ∧ Below (w.heap.size + 1) W3 wr ∧ FillW w (w.heap.size + 1) W3.heap.size g cols rows N (tF E rows i 0) wr) (fun iv _ => rows - (intOf iv).toNat)
  case atStart => exact ⟨0, Nat.zero_le _, rfl, (below_new _ _).mono (by have := HS3.out; omega), HW.out⟩
  case round =>
    clear b0 b1 b2
    obtain ⟨i, hi, rfl, hbw, hf⟩ := hrel
    have HF := Lib.hid hf
    have HBW := Lib.hid hbw
    clear hf hbw
    rename World => wi
    have hlw : w.heap.size + 2 ≤ W3.heap.size := HS3.out
    obtain ⟨b0, b1, b2⟩ := Box.below (W := W3) HX3.out HBW.out (by omega)
    have hkb : i < 4611686018427387904 := by have := HRw.out; omega
    clear hlw
    by_cases hlt : i < rows
    · go_wp2
      go_loopw [6] (fun jv wr => ∃ j : Nat, j ≤ cols ∧ jv = .int .i64 (j : Nat) ∧ Below (w.heap.size + 1) W3 wr ∧ FillW w (w.heap.size + 1) W3.heap.size g cols rows N (tF E rows i j) wr) (fun jv _ => cols - (intOf jv).toNat)
      case atStart => exact ⟨0, Nat.zero_le _, rfl, HBW.out, HF.out⟩
      case round =>
        clear b0 b1 b2 HF HBW
        obtain ⟨j, hj, rfl, hbw, hf⟩ := hrel
        have HF := Lib.hid hf
        have HBW := Lib.hid hbw
        clear hf hbw
        rename World => wj
        have hlw : w.heap.size + 2 ≤ W3.heap.size := HS3.out
        have hXj := Box.below (W := W3) HX3.out HBW.out (by omega)
        have HXj := Lib.hid hXj
        obtain ⟨b0, b1, b2⟩ := hXj
        have hkb2 : j < 4611686018427387904 := by have := HCl.out; omega
        have hsz : w.heap.size + 2 ≤ wj.heap.size := Nat.le_trans HS3.out HBW.out.size
        clear hlw
        by_cases hlt2 : j < cols
        · obtain ⟨q, hq⟩ : ∃ q, q = j * rows := ⟨_, rfl⟩
          obtain ⟨p, hp⟩ : ∃ p, p = q + i := ⟨_, rfl⟩
          have hpN : p < N := by
            have h1 : (j + 1) * rows ≤ cols * rows := Nat.mul_le_mul_right _ (by omega)
            rw [HN.out, Nat.add_mul] at h1; omega
          have hpi : (p : Int) < (N : Int) := Int.ofNat_lt.2 hpN
          have hq4 : q ≤ 4096 := by have := HN4.out; omega
          have hp4 : p ≤ 4096 := by have := HN4.out; omega
          have hm : IntKind.i64.wrap ((j : Int) * (rows : Int)) = (q : Int) := by rw [← Int.natCast_mul, ← hq]; exact wrap_i q hq4
          have hs : IntKind.i64.wrap ((q : Int) + (i : Int)) = (p : Int) := by rw [← Int.natCast_add, ← hp]; exact wrap_i p hp4
          have hEA : ∀ V, Below wj.heap.size wj V → Calls Try.prog 70 #[mval rows cols (.slice A la.length capa), .int .i64 (i : Nat), .int .i64 (j : Nat)] V (FromV (.complex .f64 (la.getD (i * cols + j) (0, 0)).1 (la.getD (i * cols + j) (0, 0)).2) wj.heap.size wj) := fun V hV =>
            from_v (HEA.out i j V hlt hlt2 ((HB3.out.trans (HBW.out.mono (Nat.le_succ _))).trans (hV.mono (HB3.out.trans (HBW.out.mono (Nat.le_succ _))).size))) hV (Nat.le_refl _)
          have HEA2 := Lib.hid hEA
          obtain ⟨z, hz⟩ : ∃ z, z = la.getD (i * cols + j) (0, 0) := ⟨_, rfl⟩
          rw [← hz] at HEA2
          have hlz : ltC z := by rw [hz]; exact ltCs_at HLt.out HLa.out hlt hlt2
          have hEp : cnC z = E p := by rw [HE.out, hp, hq, entry_at _ hlt, hz]; rfl
          have HLz := Lib.hid hlz
          have HP := Lib.hid (And.intro hq (And.intro hp (And.intro hpN hEp)))
          have hkeep : ∀ V, Below wj.heap.size wj V → (V.cell? ⟨w.heap.size, 0, none⟩ = some (.int .i64 (rows : Nat)) ∧ V.cell? ⟨w.heap.size, 1, none⟩ = some (.int .i64 (cols : Nat)) ∧ V.cell? ⟨w.heap.size, 2, none⟩ = some (.slice A la.length capa)) ∧ (V.cell? ⟨W3.heap.size, 1, none⟩ = some (.int .i64 (rows : Nat)) ∧ V.cell? ⟨W3.heap.size, 2, none⟩ = some (.slice (some ⟨g, 0, none⟩) N N)) ∧
              (∃ u, V.cell? ⟨g, p, none⟩ = some u) ∧ V.frozen? ⟨g, p, none⟩ = false := fun V hV => by
            have hF2 := HF.out.below hV
            obtain ⟨-, y2, y3⟩ := hF2.cells
            obtain ⟨x4, x5⟩ := hF2.place hpN
            exact ⟨Box.below (W := wj) HXj.out hV (by omega), ⟨y2, y3⟩, x4, x5⟩
          have hkeep2 : ∀ V v, Below wj.heap.size wj V → ((V.setCell ⟨g, p, none⟩ v).cell? ⟨w.heap.size, 0, none⟩ = some (.int .i64 (rows : Nat)) ∧ (V.setCell ⟨g, p, none⟩ v).cell? ⟨w.heap.size, 1, none⟩ = some (.int .i64 (cols : Nat)) ∧ (V.setCell ⟨g, p, none⟩ v).cell? ⟨w.heap.size, 2, none⟩ = some (.slice A la.length capa)) ∧ ((V.setCell ⟨g, p, none⟩ v).cell? ⟨W3.heap.size, 1, none⟩ = some (.int .i64 (rows : Nat)) ∧ (V.setCell ⟨g, p, none⟩ v).cell? ⟨W3.heap.size, 2, none⟩ = some (.slice (some ⟨g, 0, none⟩) N N)) ∧
              (∃ u, (V.setCell ⟨g, p, none⟩ v).cell? ⟨g, p, none⟩ = some u) ∧ (V.setCell ⟨g, p, none⟩ v).frozen? ⟨g, p, none⟩ = false := fun V v hV => by
            obtain ⟨⟨y0, y1, y2⟩, ⟨y3, y4⟩, ⟨u, y5⟩, y6⟩ := hkeep V hV
            have hg1 := HG.out
            have hg2 := HG2.out
            have no : ∀ p' : Addr, p'.block ≠ g → (V.setCell ⟨g, p, none⟩ v).cell? p' = V.cell? p' := fun p' hp' => World.cell?_setCell_other _ _ _ _ (fun e => hp' (by rw [← e]))
            exact ⟨⟨(no _ (by show w.heap.size ≠ g; omega)).trans y0, (no _ (by show w.heap.size ≠ g; omega)).trans y1, (no _ (by show w.heap.size ≠ g; omega)).trans y2⟩, ⟨(no _ (by show W3.heap.size ≠ g; omega)).trans y3, (no _ (by show W3.heap.size ≠ g; omega)).trans y4⟩, ⟨_, World.cell?_setCell_same _ _ _ y5⟩, by rw [World.frozen?_setCell]; exact y6⟩
          have HK := Lib.hid hkeep
          have HK2 := Lib.hid hkeep2
          obtain ⟨-, ⟨x3, x4⟩, ⟨u, x5⟩, x6⟩ := hkeep wj (Below.refl _ _)
          clear hkeep hkeep2 hEA hz hlz hEp hq hp hpN hq4 hp4 hsz
          go_wp2_with fail
          go_region_held3 (fun V => (V.cell? ⟨w.heap.size, 0, none⟩ = some (.int .i64 (rows : Nat)) ∧ V.cell? ⟨w.heap.size, 1, none⟩ = some (.int .i64 (cols : Nat)) ∧ V.cell? ⟨w.heap.size, 2, none⟩ = some (.slice A la.length capa)) ∧ (V.cell? ⟨W3.heap.size, 1, none⟩ = some (.int .i64 (rows : Nat)) ∧ V.cell? ⟨W3.heap.size, 2, none⟩ = some (.slice (some ⟨g, 0, none⟩) N N)) ∧
              (∃ u, V.cell? ⟨g, p, none⟩ = some u) ∧ V.frozen? ⟨g, p, none⟩ = false)
            (first
            | (with_reducible refine HK2.out _ _ ?_; (repeat (first | with_reducible assumption | with_reducible refine Below.drew ?_ | with_reducible exact Below.refl _ _)); done)
            | (with_reducible refine HK.out _ ?_; (repeat (first | with_reducible assumption | with_reducible refine Below.new ?_ (Nat.le_refl _) _ | with_reducible refine Below.drew ?_ | with_reducible exact Below.refl _ _)); done))
            (first
            | (go_at_call 70; (with_reducible refine (HEA2.out _ ?_).mono ?_); (repeat (first | with_reducible assumption | with_reducible refine Below.drew ?_ | with_reducible exact Below.refl _ _)); (rintro e V ⟨rfl, hV⟩); (obtain ⟨⟨y0, y1, y2⟩, ⟨y3, y4⟩, ⟨u', y5⟩, y6⟩ := HK.out V hV)))
          all_goals
            have HVV := Lib.hid hV
            clear hV x3 x4 x5 x6 y0 y1 y2 y3 y4 y5 y6 HK HK2 hm hs
            go_wp2
            go_roundw
            case rel =>
              refine ⟨j + 1, hlt2, by go_num, ?_, ?_⟩
              · exact (HBW.out.trans (HVV.out.mono (by have := HBW.out.size; have := HS3.out; omega))).setCell (Nat.le_of_lt HG.out) _
              · exact (HF.out.below HVV.out).set (z := z) HP.out.2.2.1 HLz.out (fun q' _ => by rw [HP.out.2.1, HP.out.1]; exact tF_step hlt (by rw [← HP.out.1, ← HP.out.2.1]; exact HP.out.2.2.2)) (by have := HG.out; omega) (Nat.ne_of_lt HG.out) (Nat.ne_of_gt HG2.out)
            case measure => simp [intOf]; omega
        · have e : j = cols := by omega
          subst e
          go_wp2
          go_roundw
          case rel => exact ⟨i + 1, hlt, by go_num, HBW.out, HF.out.congr fun q hq => (tF_row (by rw [HN.out]; exact hq)).symm⟩
          case measure => simp [intOf]; omega
    · have e : i = rows := by omega
      subst e
      obtain ⟨x, y, z⟩ := HF.out.cells
      have HR2 : wi.heap[w.heap.size + 1]? = some zrow := by obtain ⟨zs, _, _, _, _, h5, _⟩ := HF.out; exact h5
      obtain ⟨r0, r1, r2, fr⟩ := box3 HR2
      have f0 := fr 0
      have f1 := fr 1
      have f2 := fr 2
      clear fr
      go_wp2
      obtain ⟨q0, q1, q2⟩ := set3 (u := .int .i64 (cols : Nat)) (v := .int .i64 (i : Nat)) (t := .slice (some ⟨g, 0, none⟩) N N) r0 r1 r2
      refine bodyPost_ret (v := .tuple #[mval cols i (.slice (some ⟨g, 0, none⟩) N N), .int .i64 0]) (by simp [results, Try.results38, go_sem, q0, q1, q2]) rfl ?_
      have h := (HF.out.congr (F' := E) fun q hq => (tF_end (by rw [HN.out]; exact hq)).symm).close (er := 0) (by omega) HG.out rfl HN4.out
      exact h
theorem rTranspose_c (rows cols : Nat) (A : Option Addr) (l : List C) (cap : Nat) (w : World) (hr : rows ≤ 64) (hc : cols ≤ 64) (hl : l.length = rows * cols) (hrd : Reads w w.heap.size A (nums l)) (hlt : ltCs l) :
    Calls Try.prog 38 #[mval rows cols (.slice A l.length cap)] w (RetMxE cols rows (entries rows (fun i j => ent l cols j i) (cols * rows)) 0 w) :=
  rTranspose_of rows cols (cols * rows) A l cap w hr hc rfl hl hlt hrd _ rfl
end Go.Proofs.Ytdkcdcbbpebgmaa
namespace Go.Proofs.Ytdkcdcbbpebgmaa
open Go.RowKit Fl Ieee
set_option maxRecDepth 20000
attribute [local go_sem] run_store_float run_store_complex
set_option maxHeartbeats 2000000 in
theorem rSwap_of (rows cols N a b : Nat) (A : Option Addr) (la : List C) (capa : Nat) (w : World) (hr : rows ≤ 64) (hc : cols ≤ 64) (ha : a < rows) (hb0 : b < rows) (hN : rows * cols = N) (hla : la.length = rows * cols) (hlt : ltCs la)
    (hA : Reads w w.heap.size A (nums la)) (E : Nat → C) (hE : E = entry cols fun k c => ent la cols (swp a b k) c) :
    Calls Try.prog 40 #[mval rows cols (.slice A la.length capa), .int .i64 (a : Nat), .int .i64 (b : Nat)] w (RetMxE rows cols ((List.range N).map E) 0 w) := by
  have hN4 : N ≤ 4096 := hN ▸ prod_small hr hc
  have HC := Lib.hid (rIs_c rows cols A la.length capa)
  rw [okN hr hc hla] at HC
  have HBl := Lib.hid (fun W => Blank_of rows cols N hN4 (by rw [← Int.natCast_mul, hN]; exact wrap_small _ hN4) W)
  have hEA : ∀ (i j : Nat) (V : World), i < rows → j < cols → Below w.heap.size w V → Calls Try.prog 70 #[mval rows cols (.slice A la.length capa), .int .i64 (i : Nat), .int .i64 (j : Nat)] V (RetV (.complex .f64 (la.getD (i * cols + j) (0, 0)).1 (la.getD (i * cols + j) (0, 0)).2) V) := fun i j V hi hj hV =>
    rEnt_e rows cols A la capa i j V hla hr hc hi hj ((hA.below hV).more hV.size)
  have HEA := Lib.hid hEA
  have hai : (a : Int) < (rows : Int) := Int.ofNat_lt.2 ha
  have hbi : (b : Int) < (rows : Int) := Int.ofNat_lt.2 hb0
  have hsw : ∀ k, k < rows → swp a b k < rows := fun k hk => swp_lt ha hb0 hk
  have HSw := Lib.hid hsw
  have HLa := Lib.hid hla
  have HLt := Lib.hid hlt
  have HN := Lib.hid hN
  have HN4 := Lib.hid hN4
  have HRw := Lib.hid hr
  have HCl := Lib.hid hc
  have HE := Lib.hid hE
  clear hla hlt hA hN hN4 hr hc hEA hE hsw ha hb0
  go_enter Try.func40, Try.ntmps40
  go_wp2_with fail
  refine (HC.out _).mono ?_
  rintro e W1 ⟨rfl, hb⟩
  obtain ⟨⟨b0, b1, b2⟩, hrow, hbl, hs1⟩ := frame1 hb
  have HRow2 := Lib.hid hrow
  have HB2 := Lib.hid hbl
  have HS2 := Lib.hid hs1
  have HX2 := Lib.hid (And.intro b0 (And.intro b1 b2))
  clear hb hbl hrow hs1
  go_wp2_with fail
  refine (HBl.out _).mono ?_
  rintro e W3 ⟨g, rfl, hg, hgl, hb3⟩
  have l0 : w.heap.size < W1.heap.size := by have := HS2.out; omega
  have HG := Lib.hid (show w.heap.size + 1 < g by have := HS2.out; omega)
  have HG2 := Lib.hid (row_lt hg)
  have HX3 := Lib.hid (Box.below (W := W1) HX2.out hb3 l0)
  have HS3 := Lib.hid (Nat.le_trans HS2.out hb3.size)
  have HB3 := Lib.hid (HB2.out.trans (hb3.mono (Nat.le_of_lt l0)))
  have HW := Lib.hid (FillW.start (F := upto E 0) (r := (rows : Nat)) (c := (cols : Nat)) hg (row_keep hb3 HRow2.out) HB3.out (fun q _ => by unfold upto; rw [if_neg (Nat.not_lt_zero _)]))
  clear hg hgl hb3 l0 b0 b1 b2 HX2 HS2 HB2 HRow2 HBl HC
  have c3 := HX3.out
  obtain ⟨b0, b1, b2⟩ := c3
  go_wp2
  go_loopw [9] (fun iv wr => ∃ i : Nat, i ≤ rows ∧ iv = .int .i64 (i : Nat) ∧ Below (w.heap.size + 1) W3 wr ∧ FillW w (w.heap.size + 1) W3.heap.size g rows cols N (upto E (i * cols)) wr) (fun iv _ => rows - (intOf iv).toNat)
  case atStart => exact ⟨0, Nat.zero_le _, rfl, (below_new _ _).mono (by have := HS3.out; omega), by rw [Nat.zero_mul]; exact HW.out⟩
  case round =>
    clear b0 b1 b2
    obtain ⟨i, hi, rfl, hbw, hf⟩ := hrel
    have HF := Lib.hid hf
    have HBW := Lib.hid hbw
    clear hf hbw
    rename World => wi
    have hlw : w.heap.size + 2 ≤ W3.heap.size := HS3.out
    obtain ⟨b0, b1, b2⟩ := Box.below (W := W3) HX3.out HBW.out (by omega)
    have hkb : i < 4611686018427387904 := by have := HRw.out; omega
    clear hlw
    by_cases hlt : i < rows
    · by_cases ea : i = a
      · have h1 : ((i : Int) == (a : Int)) = true := by simp [ea]
        have hfr : swp a b i = b := by unfold swp; rw [if_pos ea]
        have hfl : b < rows := hfr ▸ HSw.out i hlt
        clear ea
        go_wp2
        go_loopw [11] (fun jv wr => ∃ j : Nat, j ≤ cols ∧ jv = .int .i64 (j : Nat) ∧ Below (w.heap.size + 1) W3 wr ∧ FillW w (w.heap.size + 1) W3.heap.size g rows cols N (upto E (i * cols + j)) wr) (fun jv _ => cols - (intOf jv).toNat)
        case atStart => exact ⟨0, Nat.zero_le _, rfl, HBW.out, HF.out⟩
        case round =>
          clear b0 b1 b2 HF HBW
          obtain ⟨j, hj, rfl, hbw, hf⟩ := hrel
          have HF := Lib.hid hf
          have HBW := Lib.hid hbw
          clear hf hbw
          rename World => wj
          have hlw : w.heap.size + 2 ≤ W3.heap.size := HS3.out
          have hXj := Box.below (W := W3) HX3.out HBW.out (by omega)
          have HXj := Lib.hid hXj
          obtain ⟨b0, b1, b2⟩ := hXj
          have hkb2 : j < 4611686018427387904 := by have := HCl.out; omega
          have hsz : w.heap.size + 2 ≤ wj.heap.size := Nat.le_trans HS3.out HBW.out.size
          clear hlw
          by_cases hlt2 : j < cols
          · obtain ⟨q, hq⟩ : ∃ q, q = i * cols := ⟨_, rfl⟩
            obtain ⟨p, hp⟩ : ∃ p, p = q + j := ⟨_, rfl⟩
            have hpN : p < N := by
              have h1 : (i + 1) * cols ≤ rows * cols := Nat.mul_le_mul_right _ (by omega)
              rw [HN.out, Nat.add_mul] at h1; omega
            have hpi : (p : Int) < (N : Int) := Int.ofNat_lt.2 hpN
            have hq4 : q ≤ 4096 := by have := HN4.out; omega
            have hp4 : p ≤ 4096 := by have := HN4.out; omega
            have hm : IntKind.i64.wrap ((i : Int) * (cols : Int)) = (q : Int) := by rw [← Int.natCast_mul, ← hq]; exact wrap_i q hq4
            have hs : IntKind.i64.wrap ((q : Int) + (j : Int)) = (p : Int) := by rw [← Int.natCast_add, ← hp]; exact wrap_i p hp4
            have hEA : ∀ V, Below wj.heap.size wj V → Calls Try.prog 70 #[mval rows cols (.slice A la.length capa), .int .i64 (b : Nat), .int .i64 (j : Nat)] V (FromV (.complex .f64 (la.getD (b * cols + j) (0, 0)).1 (la.getD (b * cols + j) (0, 0)).2) wj.heap.size wj) := fun V hV =>
              from_v (HEA.out b j V hfl hlt2 ((HB3.out.trans (HBW.out.mono (Nat.le_succ _))).trans (hV.mono (HB3.out.trans (HBW.out.mono (Nat.le_succ _))).size))) hV (Nat.le_refl _)
            have HEA2 := Lib.hid hEA
            obtain ⟨z, hz⟩ : ∃ z, z = la.getD (b * cols + j) (0, 0) := ⟨_, rfl⟩
            rw [← hz] at HEA2
            have hlz : ltC z := by rw [hz]; exact ltCs_at HLt.out HLa.out hfl hlt2
            have hEp : cnC z = E p := by rw [HE.out, hp, hq, entry_at _ hlt2, hz, hfr]; rfl
            have HLz := Lib.hid hlz
            have HP := Lib.hid (And.intro hq (And.intro hp (And.intro hpN hEp)))
            have hkeep : ∀ V, Below wj.heap.size wj V → (V.cell? ⟨w.heap.size, 0, none⟩ = some (.int .i64 (rows : Nat)) ∧ V.cell? ⟨w.heap.size, 1, none⟩ = some (.int .i64 (cols : Nat)) ∧ V.cell? ⟨w.heap.size, 2, none⟩ = some (.slice A la.length capa)) ∧ (V.cell? ⟨W3.heap.size, 2, none⟩ = some (.slice (some ⟨g, 0, none⟩) N N)) ∧
                (∃ u, V.cell? ⟨g, p, none⟩ = some u) ∧ V.frozen? ⟨g, p, none⟩ = false := fun V hV => by
              have hF2 := HF.out.below hV
              obtain ⟨-, y2, y3⟩ := hF2.cells
              obtain ⟨x4, x5⟩ := hF2.place hpN
              exact ⟨Box.below (W := wj) HXj.out hV (by omega), y3, x4, x5⟩
            have hkeep2 : ∀ V v, Below wj.heap.size wj V → ((V.setCell ⟨g, p, none⟩ v).cell? ⟨w.heap.size, 0, none⟩ = some (.int .i64 (rows : Nat)) ∧ (V.setCell ⟨g, p, none⟩ v).cell? ⟨w.heap.size, 1, none⟩ = some (.int .i64 (cols : Nat)) ∧ (V.setCell ⟨g, p, none⟩ v).cell? ⟨w.heap.size, 2, none⟩ = some (.slice A la.length capa)) ∧ ((V.setCell ⟨g, p, none⟩ v).cell? ⟨W3.heap.size, 2, none⟩ = some (.slice (some ⟨g, 0, none⟩) N N)) ∧
                (∃ u, (V.setCell ⟨g, p, none⟩ v).cell? ⟨g, p, none⟩ = some u) ∧ (V.setCell ⟨g, p, none⟩ v).frozen? ⟨g, p, none⟩ = false := fun V v hV => by
              obtain ⟨⟨y0, y1, y2⟩, y4, ⟨u, y5⟩, y6⟩ := hkeep V hV
              have hg1 := HG.out
              have hg2 := HG2.out
              have no : ∀ p' : Addr, p'.block ≠ g → (V.setCell ⟨g, p, none⟩ v).cell? p' = V.cell? p' := fun p' hp' => World.cell?_setCell_other _ _ _ _ (fun e => hp' (by rw [← e]))
              exact ⟨⟨(no _ (by show w.heap.size ≠ g; omega)).trans y0, (no _ (by show w.heap.size ≠ g; omega)).trans y1, (no _ (by show w.heap.size ≠ g; omega)).trans y2⟩, (no _ (by show W3.heap.size ≠ g; omega)).trans y4, ⟨_, World.cell?_setCell_same _ _ _ y5⟩, by rw [World.frozen?_setCell]; exact y6⟩
            have HK := Lib.hid hkeep
            have HK2 := Lib.hid hkeep2
            obtain ⟨-, x4, ⟨u, x5⟩, x6⟩ := hkeep wj (Below.refl _ _)
            clear hkeep hkeep2 hEA hz hlz hEp hq hp hpN hq4 hp4 hsz
            go_wp2_with fail
            go_region_held3 (fun V => (V.cell? ⟨w.heap.size, 0, none⟩ = some (.int .i64 (rows : Nat)) ∧ V.cell? ⟨w.heap.size, 1, none⟩ = some (.int .i64 (cols : Nat)) ∧ V.cell? ⟨w.heap.size, 2, none⟩ = some (.slice A la.length capa)) ∧ (V.cell? ⟨W3.heap.size, 2, none⟩ = some (.slice (some ⟨g, 0, none⟩) N N)) ∧
                (∃ u, V.cell? ⟨g, p, none⟩ = some u) ∧ V.frozen? ⟨g, p, none⟩ = false)
              (first
              | (with_reducible refine HK2.out _ _ ?_; (repeat (first | with_reducible assumption | with_reducible refine Below.drew ?_ | with_reducible exact Below.refl _ _)); done)
              | (with_reducible refine HK.out _ ?_; (repeat (first | with_reducible assumption | with_reducible refine Below.new ?_ (Nat.le_refl _) _ | with_reducible refine Below.drew ?_ | with_reducible exact Below.refl _ _)); done))
              (first
              | (go_at_call 70; (with_reducible refine (HEA2.out _ ?_).mono ?_); (repeat (first | with_reducible assumption | with_reducible refine Below.drew ?_ | with_reducible exact Below.refl _ _)); (rintro e V ⟨rfl, hV⟩); (obtain ⟨⟨y0, y1, y2⟩, y4, ⟨u', y5⟩, y6⟩ := HK.out V hV)))
            all_goals
              have HVV := Lib.hid hV
              clear hV x4 x5 x6 y0 y1 y2 y4 y5 y6 HK HK2 hm hs
              go_wp2
              go_roundw
              case rel =>
                refine ⟨j + 1, hlt2, by go_num, ?_, ?_⟩
                · exact (HBW.out.trans (HVV.out.mono (by have := HBW.out.size; have := HS3.out; omega))).setCell (Nat.le_of_lt HG.out) _
                · have e1 : i * cols + (j + 1) = p + 1 := by rw [HP.out.2.1, HP.out.1]; omega
                  have e2 : i * cols + j = p := by rw [HP.out.2.1, HP.out.1]
                  have hF3 := HF.out.below HVV.out
                  rw [e2] at hF3
                  rw [e1]
                  exact hF3.set (z := z) HP.out.2.2.1 HLz.out (fun q' _ => upto_step HP.out.2.2.2) (by have := HG.out; omega) (Nat.ne_of_lt HG.out) (Nat.ne_of_gt HG2.out)
              case measure => simp [intOf]; omega
          · have e : j = cols := by omega
            subst e
            go_wp2
            go_roundw
            case rel => exact ⟨i + 1, hlt, by go_num, HBW.out, by rw [Nat.add_mul, Nat.one_mul]; exact HF.out⟩
            case measure => simp [intOf]; omega
      · by_cases eb : i = b
        · have h1 : ((i : Int) == (a : Int)) = false := by simp; omega
          have h2 : ((i : Int) == (b : Int)) = true := by simp [eb]
          have hfr : swp a b i = a := by unfold swp; rw [if_neg ea, if_pos eb]
          have hfl : a < rows := hfr ▸ HSw.out i hlt
          clear ea eb
          go_wp2
          go_loopw [11] (fun jv wr => ∃ j : Nat, j ≤ cols ∧ jv = .int .i64 (j : Nat) ∧ Below (w.heap.size + 1) W3 wr ∧ FillW w (w.heap.size + 1) W3.heap.size g rows cols N (upto E (i * cols + j)) wr) (fun jv _ => cols - (intOf jv).toNat)
          case atStart => exact ⟨0, Nat.zero_le _, rfl, HBW.out, HF.out⟩
          case round =>
            clear b0 b1 b2 HF HBW
            obtain ⟨j, hj, rfl, hbw, hf⟩ := hrel
            have HF := Lib.hid hf
            have HBW := Lib.hid hbw
            clear hf hbw
            rename World => wj
            have hlw : w.heap.size + 2 ≤ W3.heap.size := HS3.out
            have hXj := Box.below (W := W3) HX3.out HBW.out (by omega)
            have HXj := Lib.hid hXj
            obtain ⟨b0, b1, b2⟩ := hXj
            have hkb2 : j < 4611686018427387904 := by have := HCl.out; omega
            have hsz : w.heap.size + 2 ≤ wj.heap.size := Nat.le_trans HS3.out HBW.out.size
            clear hlw
            by_cases hlt2 : j < cols
            · obtain ⟨q, hq⟩ : ∃ q, q = i * cols := ⟨_, rfl⟩
              obtain ⟨p, hp⟩ : ∃ p, p = q + j := ⟨_, rfl⟩
              have hpN : p < N := by
                have h1 : (i + 1) * cols ≤ rows * cols := Nat.mul_le_mul_right _ (by omega)
                rw [HN.out, Nat.add_mul] at h1; omega
              have hpi : (p : Int) < (N : Int) := Int.ofNat_lt.2 hpN
              have hq4 : q ≤ 4096 := by have := HN4.out; omega
              have hp4 : p ≤ 4096 := by have := HN4.out; omega
              have hm : IntKind.i64.wrap ((i : Int) * (cols : Int)) = (q : Int) := by rw [← Int.natCast_mul, ← hq]; exact wrap_i q hq4
              have hs : IntKind.i64.wrap ((q : Int) + (j : Int)) = (p : Int) := by rw [← Int.natCast_add, ← hp]; exact wrap_i p hp4
              have hEA : ∀ V, Below wj.heap.size wj V → Calls Try.prog 70 #[mval rows cols (.slice A la.length capa), .int .i64 (a : Nat), .int .i64 (j : Nat)] V (FromV (.complex .f64 (la.getD (a * cols + j) (0, 0)).1 (la.getD (a * cols + j) (0, 0)).2) wj.heap.size wj) := fun V hV =>
                from_v (HEA.out a j V hfl hlt2 ((HB3.out.trans (HBW.out.mono (Nat.le_succ _))).trans (hV.mono (HB3.out.trans (HBW.out.mono (Nat.le_succ _))).size))) hV (Nat.le_refl _)
              have HEA2 := Lib.hid hEA
              obtain ⟨z, hz⟩ : ∃ z, z = la.getD (a * cols + j) (0, 0) := ⟨_, rfl⟩
              rw [← hz] at HEA2
              have hlz : ltC z := by rw [hz]; exact ltCs_at HLt.out HLa.out hfl hlt2
              have hEp : cnC z = E p := by rw [HE.out, hp, hq, entry_at _ hlt2, hz, hfr]; rfl
              have HLz := Lib.hid hlz
              have HP := Lib.hid (And.intro hq (And.intro hp (And.intro hpN hEp)))
              have hkeep : ∀ V, Below wj.heap.size wj V → (V.cell? ⟨w.heap.size, 0, none⟩ = some (.int .i64 (rows : Nat)) ∧ V.cell? ⟨w.heap.size, 1, none⟩ = some (.int .i64 (cols : Nat)) ∧ V.cell? ⟨w.heap.size, 2, none⟩ = some (.slice A la.length capa)) ∧ (V.cell? ⟨W3.heap.size, 2, none⟩ = some (.slice (some ⟨g, 0, none⟩) N N)) ∧
                  (∃ u, V.cell? ⟨g, p, none⟩ = some u) ∧ V.frozen? ⟨g, p, none⟩ = false := fun V hV => by
                have hF2 := HF.out.below hV
                obtain ⟨-, y2, y3⟩ := hF2.cells
                obtain ⟨x4, x5⟩ := hF2.place hpN
                exact ⟨Box.below (W := wj) HXj.out hV (by omega), y3, x4, x5⟩
              have hkeep2 : ∀ V v, Below wj.heap.size wj V → ((V.setCell ⟨g, p, none⟩ v).cell? ⟨w.heap.size, 0, none⟩ = some (.int .i64 (rows : Nat)) ∧ (V.setCell ⟨g, p, none⟩ v).cell? ⟨w.heap.size, 1, none⟩ = some (.int .i64 (cols : Nat)) ∧ (V.setCell ⟨g, p, none⟩ v).cell? ⟨w.heap.size, 2, none⟩ = some (.slice A la.length capa)) ∧ ((V.setCell ⟨g, p, none⟩ v).cell? ⟨W3.heap.size, 2, none⟩ = some (.slice (some ⟨g, 0, none⟩) N N)) ∧
                  (∃ u, (V.setCell ⟨g, p, none⟩ v).cell? ⟨g, p, none⟩ = some u) ∧ (V.setCell ⟨g, p, none⟩ v).frozen? ⟨g, p, none⟩ = false := fun V v hV => by
                obtain ⟨⟨y0, y1, y2⟩, y4, ⟨u, y5⟩, y6⟩ := hkeep V hV
                have hg1 := HG.out
                have hg2 := HG2.out
                have no : ∀ p' : Addr, p'.block ≠ g → (V.setCell ⟨g, p, none⟩ v).cell? p' = V.cell? p' := fun p' hp' => World.cell?_setCell_other _ _ _ _ (fun e => hp' (by rw [← e]))
                exact ⟨⟨(no _ (by show w.heap.size ≠ g; omega)).trans y0, (no _ (by show w.heap.size ≠ g; omega)).trans y1, (no _ (by show w.heap.size ≠ g; omega)).trans y2⟩, (no _ (by show W3.heap.size ≠ g; omega)).trans y4, ⟨_, World.cell?_setCell_same _ _ _ y5⟩, by rw [World.frozen?_setCell]; exact y6⟩
              have HK := Lib.hid hkeep
              have HK2 := Lib.hid hkeep2
              obtain ⟨-, x4, ⟨u, x5⟩, x6⟩ := hkeep wj (Below.refl _ _)
              clear hkeep hkeep2 hEA hz hlz hEp hq hp hpN hq4 hp4 hsz
              go_wp2_with fail
              go_region_held3 (fun V => (V.cell? ⟨w.heap.size, 0, none⟩ = some (.int .i64 (rows : Nat)) ∧ V.cell? ⟨w.heap.size, 1, none⟩ = some (.int .i64 (cols : Nat)) ∧ V.cell? ⟨w.heap.size, 2, none⟩ = some (.slice A la.length capa)) ∧ (V.cell? ⟨W3.heap.size, 2, none⟩ = some (.slice (some ⟨g, 0, none⟩) N N)) ∧
                  (∃ u, V.cell? ⟨g, p, none⟩ = some u) ∧ V.frozen? ⟨g, p, none⟩ = false)
                (first
                | (with_reducible refine HK2.out _ _ ?_; (repeat (first | with_reducible assumption | with_reducible refine Below.drew ?_ | with_reducible exact Below.refl _ _)); done)
                | (with_reducible refine HK.out _ ?_; (repeat (first | with_reducible assumption | with_reducible refine Below.new ?_ (Nat.le_refl _) _ | with_reducible refine Below.drew ?_ | with_reducible exact Below.refl _ _)); done))
                (first
                | (go_at_call 70; (with_reducible refine (HEA2.out _ ?_).mono ?_); (repeat (first | with_reducible assumption | with_reducible refine Below.drew ?_ | with_reducible exact Below.refl _ _)); (rintro e V ⟨rfl, hV⟩); (obtain ⟨⟨y0, y1, y2⟩, y4, ⟨u', y5⟩, y6⟩ := HK.out V hV)))
              all_goals
                have HVV := Lib.hid hV
                clear hV x4 x5 x6 y0 y1 y2 y4 y5 y6 HK HK2 hm hs
                go_wp2
                go_roundw
                case rel =>
                  refine ⟨j + 1, hlt2, by go_num, ?_, ?_⟩
                  · exact (HBW.out.trans (HVV.out.mono (by have := HBW.out.size; have := HS3.out; omega))).setCell (Nat.le_of_lt HG.out) _
                  · have e1 : i * cols + (j + 1) = p + 1 := by rw [HP.out.2.1, HP.out.1]; omega
                    have e2 : i * cols + j = p := by rw [HP.out.2.1, HP.out.1]
                    have hF3 := HF.out.below HVV.out
                    rw [e2] at hF3
                    rw [e1]
                    exact hF3.set (z := z) HP.out.2.2.1 HLz.out (fun q' _ => upto_step HP.out.2.2.2) (by have := HG.out; omega) (Nat.ne_of_lt HG.out) (Nat.ne_of_gt HG2.out)
                case measure => simp [intOf]; omega
            · have e : j = cols := by omega
              subst e
              go_wp2
              go_roundw
              case rel => exact ⟨i + 1, hlt, by go_num, HBW.out, by rw [Nat.add_mul, Nat.one_mul]; exact HF.out⟩
              case measure => simp [intOf]; omega
        · have h1 : ((i : Int) == (a : Int)) = false := by simp; omega
          have h2 : ((i : Int) == (b : Int)) = false := by simp; omega
          have hfr : swp a b i = i := by unfold swp; rw [if_neg ea, if_neg eb]
          have hfl : i < rows := hlt
          clear ea eb
          go_wp2
          go_loopw [11] (fun jv wr => ∃ j : Nat, j ≤ cols ∧ jv = .int .i64 (j : Nat) ∧ Below (w.heap.size + 1) W3 wr ∧ FillW w (w.heap.size + 1) W3.heap.size g rows cols N (upto E (i * cols + j)) wr) (fun jv _ => cols - (intOf jv).toNat)
          case atStart => exact ⟨0, Nat.zero_le _, rfl, HBW.out, HF.out⟩
          case round =>
            clear b0 b1 b2 HF HBW
            obtain ⟨j, hj, rfl, hbw, hf⟩ := hrel
            have HF := Lib.hid hf
            have HBW := Lib.hid hbw
            clear hf hbw
            rename World => wj
            have hlw : w.heap.size + 2 ≤ W3.heap.size := HS3.out
            have hXj := Box.below (W := W3) HX3.out HBW.out (by omega)
            have HXj := Lib.hid hXj
            obtain ⟨b0, b1, b2⟩ := hXj
            have hkb2 : j < 4611686018427387904 := by have := HCl.out; omega
            have hsz : w.heap.size + 2 ≤ wj.heap.size := Nat.le_trans HS3.out HBW.out.size
            clear hlw
            by_cases hlt2 : j < cols
            · obtain ⟨q, hq⟩ : ∃ q, q = i * cols := ⟨_, rfl⟩
              obtain ⟨p, hp⟩ : ∃ p, p = q + j := ⟨_, rfl⟩
              have hpN : p < N := by
                have h1 : (i + 1) * cols ≤ rows * cols := Nat.mul_le_mul_right _ (by omega)
                rw [HN.out, Nat.add_mul] at h1; omega
              have hpi : (p : Int) < (N : Int) := Int.ofNat_lt.2 hpN
              have hq4 : q ≤ 4096 := by have := HN4.out; omega
              have hp4 : p ≤ 4096 := by have := HN4.out; omega
              have hm : IntKind.i64.wrap ((i : Int) * (cols : Int)) = (q : Int) := by rw [← Int.natCast_mul, ← hq]; exact wrap_i q hq4
              have hs : IntKind.i64.wrap ((q : Int) + (j : Int)) = (p : Int) := by rw [← Int.natCast_add, ← hp]; exact wrap_i p hp4
              have hEA : ∀ V, Below wj.heap.size wj V → Calls Try.prog 70 #[mval rows cols (.slice A la.length capa), .int .i64 (i : Nat), .int .i64 (j : Nat)] V (FromV (.complex .f64 (la.getD (i * cols + j) (0, 0)).1 (la.getD (i * cols + j) (0, 0)).2) wj.heap.size wj) := fun V hV =>
                from_v (HEA.out i j V hfl hlt2 ((HB3.out.trans (HBW.out.mono (Nat.le_succ _))).trans (hV.mono (HB3.out.trans (HBW.out.mono (Nat.le_succ _))).size))) hV (Nat.le_refl _)
              have HEA2 := Lib.hid hEA
              obtain ⟨z, hz⟩ : ∃ z, z = la.getD (i * cols + j) (0, 0) := ⟨_, rfl⟩
              rw [← hz] at HEA2
              have hlz : ltC z := by rw [hz]; exact ltCs_at HLt.out HLa.out hfl hlt2
              have hEp : cnC z = E p := by rw [HE.out, hp, hq, entry_at _ hlt2, hz, hfr]; rfl
              have HLz := Lib.hid hlz
              have HP := Lib.hid (And.intro hq (And.intro hp (And.intro hpN hEp)))
              have hkeep : ∀ V, Below wj.heap.size wj V → (V.cell? ⟨w.heap.size, 0, none⟩ = some (.int .i64 (rows : Nat)) ∧ V.cell? ⟨w.heap.size, 1, none⟩ = some (.int .i64 (cols : Nat)) ∧ V.cell? ⟨w.heap.size, 2, none⟩ = some (.slice A la.length capa)) ∧ (V.cell? ⟨W3.heap.size, 2, none⟩ = some (.slice (some ⟨g, 0, none⟩) N N)) ∧
                  (∃ u, V.cell? ⟨g, p, none⟩ = some u) ∧ V.frozen? ⟨g, p, none⟩ = false := fun V hV => by
                have hF2 := HF.out.below hV
                obtain ⟨-, y2, y3⟩ := hF2.cells
                obtain ⟨x4, x5⟩ := hF2.place hpN
                exact ⟨Box.below (W := wj) HXj.out hV (by omega), y3, x4, x5⟩
              have hkeep2 : ∀ V v, Below wj.heap.size wj V → ((V.setCell ⟨g, p, none⟩ v).cell? ⟨w.heap.size, 0, none⟩ = some (.int .i64 (rows : Nat)) ∧ (V.setCell ⟨g, p, none⟩ v).cell? ⟨w.heap.size, 1, none⟩ = some (.int .i64 (cols : Nat)) ∧ (V.setCell ⟨g, p, none⟩ v).cell? ⟨w.heap.size, 2, none⟩ = some (.slice A la.length capa)) ∧ ((V.setCell ⟨g, p, none⟩ v).cell? ⟨W3.heap.size, 2, none⟩ = some (.slice (some ⟨g, 0, none⟩) N N)) ∧
                  (∃ u, (V.setCell ⟨g, p, none⟩ v).cell? ⟨g, p, none⟩ = some u) ∧ (V.setCell ⟨g, p, none⟩ v).frozen? ⟨g, p, none⟩ = false := fun V v hV => by
                obtain ⟨⟨y0, y1, y2⟩, y4, ⟨u, y5⟩, y6⟩ := hkeep V hV
                have hg1 := HG.out
                have hg2 := HG2.out
                have no : ∀ p' : Addr, p'.block ≠ g → (V.setCell ⟨g, p, none⟩ v).cell? p' = V.cell? p' := fun p' hp' => World.cell?_setCell_other _ _ _ _ (fun e => hp' (by rw [← e]))
                exact ⟨⟨(no _ (by show w.heap.size ≠ g; omega)).trans y0, (no _ (by show w.heap.size ≠ g; omega)).trans y1, (no _ (by show w.heap.size ≠ g; omega)).trans y2⟩, (no _ (by show W3.heap.size ≠ g; omega)).trans y4, ⟨_, World.cell?_setCell_same _ _ _ y5⟩, by rw [World.frozen?_setCell]; exact y6⟩
              have HK := Lib.hid hkeep
              have HK2 := Lib.hid hkeep2
              obtain ⟨-, x4, ⟨u, x5⟩, x6⟩ := hkeep wj (Below.refl _ _)
              clear hkeep hkeep2 hEA hz hlz hEp hq hp hpN hq4 hp4 hsz
              go_wp2_with fail
              go_region_held3 (fun V => (V.cell? ⟨w.heap.size, 0, none⟩ = some (.int .i64 (rows : Nat)) ∧ V.cell? ⟨w.heap.size, 1, none⟩ = some (.int .i64 (cols : Nat)) ∧ V.cell? ⟨w.heap.size, 2, none⟩ = some (.slice A la.length capa)) ∧ (V.cell? ⟨W3.heap.size, 2, none⟩ = some (.slice (some ⟨g, 0, none⟩) N N)) ∧
                  (∃ u, V.cell? ⟨g, p, none⟩ = some u) ∧ V.frozen? ⟨g, p, none⟩ = false)
                (first
                | (with_reducible refine HK2.out _ _ ?_; (repeat (first | with_reducible assumption | with_reducible refine Below.drew ?_ | with_reducible exact Below.refl _ _)); done)
                | (with_reducible refine HK.out _ ?_; (repeat (first | with_reducible assumption | with_reducible refine Below.new ?_ (Nat.le_refl _) _ | with_reducible refine Below.drew ?_ | with_reducible exact Below.refl _ _)); done))
                (first
                | (go_at_call 70; (with_reducible refine (HEA2.out _ ?_).mono ?_); (repeat (first | with_reducible assumption | with_reducible refine Below.drew ?_ | with_reducible exact Below.refl _ _)); (rintro e V ⟨rfl, hV⟩); (obtain ⟨⟨y0, y1, y2⟩, y4, ⟨u', y5⟩, y6⟩ := HK.out V hV)))
              all_goals
                have HVV := Lib.hid hV
                clear hV x4 x5 x6 y0 y1 y2 y4 y5 y6 HK HK2 hm hs
                go_wp2
                go_roundw
                case rel =>
                  refine ⟨j + 1, hlt2, by go_num, ?_, ?_⟩
                  · exact (HBW.out.trans (HVV.out.mono (by have := HBW.out.size; have := HS3.out; omega))).setCell (Nat.le_of_lt HG.out) _
                  · have e1 : i * cols + (j + 1) = p + 1 := by rw [HP.out.2.1, HP.out.1]; omega
                    have e2 : i * cols + j = p := by rw [HP.out.2.1, HP.out.1]
                    have hF3 := HF.out.below HVV.out
                    rw [e2] at hF3
                    rw [e1]
                    exact hF3.set (z := z) HP.out.2.2.1 HLz.out (fun q' _ => upto_step HP.out.2.2.2) (by have := HG.out; omega) (Nat.ne_of_lt HG.out) (Nat.ne_of_gt HG2.out)
                case measure => simp [intOf]; omega
            · have e : j = cols := by omega
              subst e
              go_wp2
              go_roundw
              case rel => exact ⟨i + 1, hlt, by go_num, HBW.out, by rw [Nat.add_mul, Nat.one_mul]; exact HF.out⟩
              case measure => simp [intOf]; omega
    · have e : i = rows := by omega
      subst e
      obtain ⟨x, y, z⟩ := HF.out.cells
      have HR2 : wi.heap[w.heap.size + 1]? = some zrow := by obtain ⟨zs, _, _, _, _, h5, _⟩ := HF.out; exact h5
      obtain ⟨r0, r1, r2, fr⟩ := box3 HR2
      have f0 := fr 0
      have f1 := fr 1
      have f2 := fr 2
      clear fr
      go_wp2
      obtain ⟨q0, q1, q2⟩ := set3 (u := .int .i64 (i : Nat)) (v := .int .i64 (cols : Nat)) (t := .slice (some ⟨g, 0, none⟩) N N) r0 r1 r2
      refine bodyPost_ret (v := .tuple #[mval i cols (.slice (some ⟨g, 0, none⟩) N N), .int .i64 0]) (by simp [results, Try.results40, go_sem, q0, q1, q2]) rfl ?_
      have h := HF.out.close (er := 0) (by omega) HG.out rfl HN4.out
      rw [HN.out, upto_end] at h
      exact h
theorem rSwap_c (rows cols a b : Nat) (A : Option Addr) (l : List C) (cap : Nat) (w : World) (hr : rows ≤ 64) (hc : cols ≤ 64) (ha : a < rows) (hb : b < rows) (hl : l.length = rows * cols) (hrd : Reads w w.heap.size A (nums l)) (hlt : ltCs l) :
    Calls Try.prog 40 #[mval rows cols (.slice A l.length cap), .int .i64 (a : Nat), .int .i64 (b : Nat)] w (RetMxE rows cols (entries cols (fun k c => ent l cols (swp a b k) c) (rows * cols)) 0 w) :=
  rSwap_of rows cols (rows * cols) a b A l cap w hr hc ha hb rfl hl hlt hrd _ rfl
end Go.Proofs.Ytdkcdcbbpebgmaa
namespace Go.Proofs.Ytdkcdcbbpebgmaa
open Go.RowKit Fl Ieee
set_option maxRecDepth 20000
attribute [local go_sem] run_store_float run_store_complex Fl.order_self Fl.order_self' Fl.order_eq Fl.order_ne Fl.order_lt Fl.order_gt
theorem rSwap_no (r c : Int) (A : Option Addr) (n cap : Nat) (i j : Int) (w : World) (h : okM r c n = false) :
    Calls Try.prog 40 #[mval r c (.slice A n cap), .int .i64 i, .int .i64 j] w (RetMxE 0 0 [] 4 w) := by
  have HC := Lib.hid (rIs_c r c A n cap)
  rw [h] at HC
  go_enter Try.func40, Try.ntmps40
  go_wp2_with fail
  refine (HC.out _).mono ?_
  rintro e W1 ⟨rfl, hb⟩
  obtain ⟨⟨b0, b1, b2⟩, hrow, hbl, hs1⟩ := frame1 hb
  obtain ⟨r0, r1, r2, fr⟩ := box3 hrow
  have f0 := fr 0
  have f1 := fr 1
  have f2 := fr 2
  have HB := Lib.hid hbl
  clear hb hbl hrow fr h hs1
  go_wp2
  obtain ⟨q0, q1, q2⟩ := set3 (u := .int .i64 0) (v := .int .i64 0) (t := .slice none 0 0) r0 r1 r2
  refine bodyPost_ret (v := .tuple #[mval 0 0 (.slice none 0 0), .int .i64 4]) (by simp [results, Try.results40, go_sem, q0, q1, q2]) rfl ?_
  exact close_mx (zs := []) rfl (by simp [ltCs]) (World.ownsRow_nil _ _ _ _) HB.out (by omega)
theorem rSwap_arg (r c : Int) (A : Option Addr) (n cap : Nat) (i j : Int) (w : World) (h : okM r c n = true)
    (h' : decide (i < 0) = true ∨ (decide (i < 0) = false ∧ decide (i ≥ r) = true) ∨ (decide (i < 0) = false ∧ decide (i ≥ r) = false ∧ decide (j < 0) = true) ∨ (decide (i < 0) = false ∧ decide (i ≥ r) = false ∧ decide (j < 0) = false ∧ decide (j ≥ r) = true)) :
    Calls Try.prog 40 #[mval r c (.slice A n cap), .int .i64 i, .int .i64 j] w (RetMxE 0 0 [] 2 w) := by
  have HC := Lib.hid (rIs_c r c A n cap)
  rw [h] at HC
  go_enter Try.func40, Try.ntmps40
  go_wp2_with fail
  refine (HC.out _).mono ?_
  rintro e W1 ⟨rfl, hb⟩
  obtain ⟨⟨b0, b1, b2⟩, hrow, hbl, hs1⟩ := frame1 hb
  obtain ⟨r0, r1, r2, fr⟩ := box3 hrow
  have f0 := fr 0
  have f1 := fr 1
  have f2 := fr 2
  have HB := Lib.hid hbl
  clear hb hbl hrow fr h hs1
  simp only [decide_eq_true_eq, decide_eq_false_iff_not, ge_iff_le] at h'
  rcases h' with h' | ⟨h1, h'⟩ | ⟨h1, h2, h'⟩ | ⟨h1, h2, h3, h'⟩
  all_goals
    go_wp2
    obtain ⟨q0, q1, q2⟩ := set3 (u := .int .i64 0) (v := .int .i64 0) (t := .slice none 0 0) r0 r1 r2
    refine bodyPost_ret (v := .tuple #[mval 0 0 (.slice none 0 0), .int .i64 2]) (by simp [results, Try.results40, go_sem, q0, q1, q2]) rfl ?_
    exact close_mx (zs := []) rfl (by simp [ltCs]) (World.ownsRow_nil _ _ _ _) HB.out (by omega)
theorem rSame_first (ra ca rb cb : Int) (A B : Option Addr) (na nb capa capb : Nat) (w : World) (h : okM ra ca na = false) :
    Calls Try.prog 43 #[mval ra ca (.slice A na capa), mval rb cb (.slice B nb capb)] w (RetBB false w) := by
  have HC := Lib.hid (rIs_c ra ca A na capa)
  rw [h] at HC
  go_enter Try.func43, Try.ntmps43
  go_wp2_with fail
  refine (HC.out _).mono ?_
  rintro e W1 ⟨rfl, hb⟩
  obtain ⟨⟨b0, b1, b2⟩, ⟨d0, d1, d2⟩, hbl, hs1⟩ := frame2b hb
  have HB := Lib.hid hbl
  clear hb hbl h hs1
  go_wp2
  go_ret
  exact ⟨rfl, HB.out⟩
theorem rSame_second (ra ca rb cb : Int) (A B : Option Addr) (na nb capa capb : Nat) (w : World) (h : okM ra ca na = true) (h' : okM rb cb nb = false ∨ (ra == rb) = false ∨ ((ra == rb) = true ∧ (ca == cb) = false)) :
    Calls Try.prog 43 #[mval ra ca (.slice A na capa), mval rb cb (.slice B nb capb)] w (RetBB false w) := by
  have HC := Lib.hid (rIs_c ra ca A na capa)
  have HD := Lib.hid (rIs_c rb cb B nb capb)
  rw [h] at HC
  go_enter Try.func43, Try.ntmps43
  go_wp2_with fail
  refine (HC.out _).mono ?_
  rintro e W1 ⟨rfl, hb⟩
  obtain ⟨⟨b0, b1, b2⟩, ⟨d0, d1, d2⟩, hbl, hs1⟩ := frame2b hb
  have HB := Lib.hid hbl
  have HS := Lib.hid hs1
  have HX := Lib.hid (And.intro b0 (And.intro b1 b2))
  have HY := Lib.hid (And.intro d0 (And.intro d1 d2))
  clear hb hbl h hs1
  go_wp2_with fail
  refine (HD.out _).mono ?_
  rintro e W2 ⟨rfl, hb2⟩
  have l0 : w.heap.size < W1.heap.size := by have := HS.out; omega
  have l1 : w.heap.size + 1 < W1.heap.size := by have := HS.out; omega
  obtain ⟨e0, e1, e2⟩ := Box.below (W := W1) HX.out hb2 l0
  obtain ⟨g0, g1, g2⟩ := Box.below (W := W1) HY.out hb2 l1
  have HB2 := Lib.hid (HB.out.trans (hb2.mono (Nat.le_of_lt l0)))
  clear hb2 l0 l1 b0 b1 b2 d0 d1 d2
  rcases h' with h' | h' | ⟨h', h''⟩
  · rw [h']
    go_wp2
    go_ret
    exact ⟨rfl, HB2.out⟩
  · go_wp2
    all_goals
      go_ret
      exact ⟨rfl, HB2.out⟩
  · have e1 : ra = rb := by simpa using h'
    subst e1
    clear h'
    go_wp2
    all_goals
      go_ret
      exact ⟨rfl, HB2.out⟩
set_option maxHeartbeats 1000000 in
theorem rSame_of (lk : C → C → Bool) (hop : ∀ (p q : C) (V : World), Calls Try.prog 88 #[.complex .f64 p.1 p.2, .complex .f64 q.1 q.2] V fun e w' => e = .returned (.bool (lk (cnC p) (cnC q))) ∧ V = w')
    (r c : Int) (A B : Option Addr) (la lb : List C) (capa capb : Nat) (w : World) (hoa : okM r c la.length = true) (hob : okM r c lb.length = true)
    (hA : Reads w w.heap.size A (nums la)) (hB : Reads w w.heap.size B (nums lb)) :
    Calls Try.prog 43 #[mval r c (.slice A la.length capa), mval r c (.slice B lb.length capb)] w (RetBB (allLike lk la lb) w) := by
  have hle := okM_iff.1 hoa
  have hle' := okM_iff.1 hob
  have hll : la.length = lb.length := by
    have h1 := hle.2.2.2.2
    have h2 := hle'.2.2.2.2
    rw [← h2] at h1; exact Int.ofNat_inj.1 h1
  have hmx : la.length ≤ 4096 := by
    obtain ⟨h1, h2, h3, h4, h5⟩ := hle
    have h6 : r * c ≤ 64 * 64 := Int.mul_le_mul h2 h4 h3 (by omega)
    omega
  have HC := Lib.hid (rIs_c r c A la.length capa)
  have HD := Lib.hid (rIs_c r c B lb.length capb)
  rw [hoa] at HC
  rw [hob] at HD
  have HA := Lib.hid hA
  have HBb := Lib.hid hB
  have HOP := Lib.hid hop
  have HLL := Lib.hid hll
  have HMX := Lib.hid hmx
  clear hoa hob hA hB hop hle hle' hll hmx
  go_enter Try.func43, Try.ntmps43
  go_wp2_with fail
  refine (HC.out _).mono ?_
  rintro e W1 ⟨rfl, hb⟩
  obtain ⟨⟨b0, b1, b2⟩, ⟨d0, d1, d2⟩, hbl, hs1⟩ := frame2b hb
  have HB := Lib.hid hbl
  have HS := Lib.hid hs1
  have HX := Lib.hid (And.intro b0 (And.intro b1 b2))
  have HY := Lib.hid (And.intro d0 (And.intro d1 d2))
  clear hb hbl hs1
  go_wp2_with fail
  refine (HD.out _).mono ?_
  rintro e W2 ⟨rfl, hb2⟩
  have l0 : w.heap.size < W1.heap.size := by have := HS.out; omega
  have l1 : w.heap.size + 1 < W1.heap.size := by have := HS.out; omega
  obtain ⟨e0, e1, e2⟩ := Box.below (W := W1) HX.out hb2 l0
  obtain ⟨g0, g1, g2⟩ := Box.below (W := W1) HY.out hb2 l1
  have HB2 := Lib.hid (HB.out.trans (hb2.mono (Nat.le_of_lt l0)))
  clear hb2 l0 l1 b0 b1 b2 d0 d1 d2
  go_wp2
  go_loopw [5] (fun i wr => HeldR lk la lb i ∧ ∃ d, wr = W2.drewN d) (fun i _ => la.length - (intOf i).toNat)
  case atStart => exact ⟨⟨0, Nat.zero_le _, rfl, fun j hj => absurd hj (Nat.not_lt_zero _)⟩, 0, rfl⟩
  case round =>
    obtain ⟨⟨k, hk, rfl, hall⟩, d, rfl⟩ := hrel
    have HAll := Lib.hid hall
    clear hall
    by_cases hlt : k < la.length
    · have hltb : k < lb.length := by rw [← HLL.out]; exact hlt
      obtain ⟨x, hx⟩ := some_of_lt (l := la) (k := k) hlt
      obtain ⟨y, hy⟩ := some_of_lt (l := lb) (k := k) hltb
      have ex : la.getD k (0, 0) = x := by rw [List.getD_eq_getElem?_getD, hx]; rfl
      have ey : lb.getD k (0, 0) = y := by rw [List.getD_eq_getElem?_getD, hy]; rfl
      have hxv : (nums la)[k]? = some (.complex .f64 x.1 x.2) := by simp [nums, hx]
      have hyv : (nums lb)[k]? = some (.complex .f64 y.1 y.2) := by simp [nums, hy]
      obtain ⟨ad, rfl, _, hc1⟩ := (HA.out.below HB2.out).at_ hxv
      obtain ⟨bd, rfl, _, hc2⟩ := (HBb.out.below HB2.out).at_ hyv
      have HLK := Lib.hid (show lk (cnC (la.getD k (0, 0))) (cnC (lb.getD k (0, 0))) = lk (cnC x) (cnC y) by rw [ex, ey])
      have hkb : k < 4611686018427387904 := by have := HMX.out; omega
      clear hx hy hxv hyv ex ey
      have hki : (k : Int) < (la.length : Int) := Int.ofNat_lt.2 hlt
      have hki2 : (k : Int) < (lb.length : Int) := Int.ofNat_lt.2 hltb
      have HS := Lib.hid (fun V => HOP.out x y V)
      cases hlk : lk (cnC x) (cnC y)
      · rw [hlk] at HS
        go_wp2
        go_quiet ((go_at_call 88; with_reducible exact quiet_add_left (HS.out _)))
        go_wp2
        go_ret
        exact ⟨ret_bool (allLike_f hlt (HLK.out.trans hlk)).symm, below_drewN (below_drewN HB2.out _) _⟩
      · rw [hlk] at HS
        have HK1 := Lib.hid (HLK.out.trans hlk)
        go_wp2
        go_quiet ((go_at_call 88; with_reducible exact quiet_add_left (HS.out _)))
        go_wp2
        go_roundw
        case rel =>
          refine ⟨⟨k + 1, hlt, by go_num, fun j hj => ?_⟩, d + _, rfl⟩
          rcases Nat.lt_or_ge j k with h | h
          · exact HAll.out j h
          · have : j = k := by omega
            subst this; exact HK1.out
        case measure => simp [intOf]; omega
    · have e : k = la.length := by omega
      subst e
      go_wp2
      go_ret
      exact ⟨ret_bool (allLike_t HAll.out).symm, below_drewN HB2.out _⟩
end Go.Proofs.Ytdkcdcbbpebgmaa
namespace Go.Proofs.Ytdkcdcbbpebgmaa
open Go.RowKit Fl Ieee
set_option maxRecDepth 20000
attribute [local go_sem] run_store_float run_store_complex Fl.order_self Fl.order_self' Fl.order_eq Fl.order_ne Fl.order_lt Fl.order_gt
theorem rEqual_first (ra ca rb cb : Int) (A B : Option Addr) (na nb capa capb : Nat) (w : World) (h : okM ra ca na = false) :
    Calls Try.prog 45 #[mval ra ca (.slice A na capa), mval rb cb (.slice B nb capb)] w (RetBB false w) := by
  have HC := Lib.hid (rIs_c ra ca A na capa)
  rw [h] at HC
  go_enter Try.func45, Try.ntmps45
  go_wp2_with fail
  refine (HC.out _).mono ?_
  rintro e W1 ⟨rfl, hb⟩
  obtain ⟨⟨b0, b1, b2⟩, ⟨d0, d1, d2⟩, hbl, hs1⟩ := frame2b hb
  have HB := Lib.hid hbl
  clear hb hbl h hs1
  go_wp2
  go_ret
  exact ⟨rfl, HB.out⟩
theorem rEqual_second (ra ca rb cb : Int) (A B : Option Addr) (na nb capa capb : Nat) (w : World) (h : okM ra ca na = true) (h' : okM rb cb nb = false ∨ (ra == rb) = false ∨ ((ra == rb) = true ∧ (ca == cb) = false)) :
    Calls Try.prog 45 #[mval ra ca (.slice A na capa), mval rb cb (.slice B nb capb)] w (RetBB false w) := by
  have HC := Lib.hid (rIs_c ra ca A na capa)
  have HD := Lib.hid (rIs_c rb cb B nb capb)
  rw [h] at HC
  go_enter Try.func45, Try.ntmps45
  go_wp2_with fail
  refine (HC.out _).mono ?_
  rintro e W1 ⟨rfl, hb⟩
  obtain ⟨⟨b0, b1, b2⟩, ⟨d0, d1, d2⟩, hbl, hs1⟩ := frame2b hb
  have HB := Lib.hid hbl
  have HS := Lib.hid hs1
  have HX := Lib.hid (And.intro b0 (And.intro b1 b2))
  have HY := Lib.hid (And.intro d0 (And.intro d1 d2))
  clear hb hbl h hs1
  go_wp2_with fail
  refine (HD.out _).mono ?_
  rintro e W2 ⟨rfl, hb2⟩
  have l0 : w.heap.size < W1.heap.size := by have := HS.out; omega
  have l1 : w.heap.size + 1 < W1.heap.size := by have := HS.out; omega
  obtain ⟨e0, e1, e2⟩ := Box.below (W := W1) HX.out hb2 l0
  obtain ⟨g0, g1, g2⟩ := Box.below (W := W1) HY.out hb2 l1
  have HB2 := Lib.hid (HB.out.trans (hb2.mono (Nat.le_of_lt l0)))
  clear hb2 l0 l1 b0 b1 b2 d0 d1 d2
  rcases h' with h' | h' | ⟨h', h''⟩
  · rw [h']
    go_wp2
    go_ret
    exact ⟨rfl, HB2.out⟩
  · go_wp2
    all_goals
      go_ret
      exact ⟨rfl, HB2.out⟩
  · have e1 : ra = rb := by simpa using h'
    subst e1
    clear h'
    go_wp2
    all_goals
      go_ret
      exact ⟨rfl, HB2.out⟩
set_option maxHeartbeats 1000000 in
theorem rEqual_of
    (r c : Int) (A B : Option Addr) (la lb : List C) (capa capb : Nat) (w : World) (hoa : okM r c la.length = true) (hob : okM r c lb.length = true)
    (hA : Reads w w.heap.size A (nums la)) (hB : Reads w w.heap.size B (nums lb)) :
    Calls Try.prog 45 #[mval r c (.slice A la.length capa), mval r c (.slice B lb.length capb)] w (RetBB (allLike pEqual la lb) w) := by
  have hle := okM_iff.1 hoa
  have hle' := okM_iff.1 hob
  have hll : la.length = lb.length := by
    have h1 := hle.2.2.2.2
    have h2 := hle'.2.2.2.2
    rw [← h2] at h1; exact Int.ofNat_inj.1 h1
  have hmx : la.length ≤ 4096 := by
    obtain ⟨h1, h2, h3, h4, h5⟩ := hle
    have h6 : r * c ≤ 64 * 64 := Int.mul_le_mul h2 h4 h3 (by omega)
    omega
  have HC := Lib.hid (rIs_c r c A la.length capa)
  have HD := Lib.hid (rIs_c r c B lb.length capb)
  rw [hoa] at HC
  rw [hob] at HD
  have HA := Lib.hid hA
  have HBb := Lib.hid hB
  have HLL := Lib.hid hll
  have HMX := Lib.hid hmx
  clear hoa hob hA hB hle hle' hll hmx
  go_enter Try.func45, Try.ntmps45
  go_wp2_with fail
  refine (HC.out _).mono ?_
  rintro e W1 ⟨rfl, hb⟩
  obtain ⟨⟨b0, b1, b2⟩, ⟨d0, d1, d2⟩, hbl, hs1⟩ := frame2b hb
  have HB := Lib.hid hbl
  have HS := Lib.hid hs1
  have HX := Lib.hid (And.intro b0 (And.intro b1 b2))
  have HY := Lib.hid (And.intro d0 (And.intro d1 d2))
  clear hb hbl hs1
  go_wp2_with fail
  refine (HD.out _).mono ?_
  rintro e W2 ⟨rfl, hb2⟩
  have l0 : w.heap.size < W1.heap.size := by have := HS.out; omega
  have l1 : w.heap.size + 1 < W1.heap.size := by have := HS.out; omega
  obtain ⟨e0, e1, e2⟩ := Box.below (W := W1) HX.out hb2 l0
  obtain ⟨g0, g1, g2⟩ := Box.below (W := W1) HY.out hb2 l1
  have HB2 := Lib.hid (HB.out.trans (hb2.mono (Nat.le_of_lt l0)))
  clear hb2 l0 l1 b0 b1 b2 d0 d1 d2
  go_wp2
  go_loopw [5] (fun i wr => HeldR pEqual la lb i ∧ ∃ d, wr = W2.drewN d) (fun i _ => la.length - (intOf i).toNat)
  case atStart => exact ⟨⟨0, Nat.zero_le _, rfl, fun j hj => absurd hj (Nat.not_lt_zero _)⟩, 0, rfl⟩
  case round =>
    obtain ⟨⟨k, hk, rfl, hall⟩, d, rfl⟩ := hrel
    have HAll := Lib.hid hall
    clear hall
    by_cases hlt : k < la.length
    · have hltb : k < lb.length := by rw [← HLL.out]; exact hlt
      obtain ⟨x, hx⟩ := some_of_lt (l := la) (k := k) hlt
      obtain ⟨y, hy⟩ := some_of_lt (l := lb) (k := k) hltb
      have ex : la.getD k (0, 0) = x := by rw [List.getD_eq_getElem?_getD, hx]; rfl
      have ey : lb.getD k (0, 0) = y := by rw [List.getD_eq_getElem?_getD, hy]; rfl
      have hxv : (nums la)[k]? = some (.complex .f64 x.1 x.2) := by simp [nums, hx]
      have hyv : (nums lb)[k]? = some (.complex .f64 y.1 y.2) := by simp [nums, hy]
      obtain ⟨ad, rfl, _, hc1⟩ := (HA.out.below HB2.out).at_ hxv
      obtain ⟨bd, rfl, _, hc2⟩ := (HBb.out.below HB2.out).at_ hyv
      have HLK := Lib.hid (show pEqual (cnC (la.getD k (0, 0))) (cnC (lb.getD k (0, 0))) = (feq .f64 x.1 y.1 && feq .f64 x.2 y.2) by rw [ex, ey]; unfold pEqual; rw [show (cnC x).1 = cn .f64 x.1 from rfl, show (cnC y).1 = cn .f64 y.1 from rfl, show (cnC x).2 = cn .f64 x.2 from rfl, show (cnC y).2 = cn .f64 y.2 from rfl, feq_cn, feq_cn])
      have hkb : k < 4611686018427387904 := by have := HMX.out; omega
      clear hx hy hxv hyv ex ey
      have hki : (k : Int) < (la.length : Int) := Int.ofNat_lt.2 hlt
      have hki2 : (k : Int) < (lb.length : Int) := Int.ofNat_lt.2 hltb
      cases e1 : feq .f64 x.1 y.1
      · have HF := Lib.hid (HLK.out.trans (by rw [e1]))
        go_wp2
        go_quiet (fail)
        go_wp2
        go_ret
        exact ⟨ret_bool (allLike_f hlt HF.out).symm, below_drewN (below_drewN HB2.out _) _⟩
      · cases e2 : feq .f64 x.2 y.2
        · have HF := Lib.hid (HLK.out.trans (by rw [e1, e2]))
          go_wp2
          go_quiet (fail)
          go_wp2
          go_ret
          exact ⟨ret_bool (allLike_f hlt HF.out).symm, below_drewN (below_drewN HB2.out _) _⟩
        · have HK1 := Lib.hid (HLK.out.trans (by rw [e1, e2]))
          go_wp2
          go_quiet (fail)
          go_wp2
          go_roundw
          case rel =>
            refine ⟨⟨k + 1, hlt, by go_num, fun j hj => ?_⟩, d + _, rfl⟩
            rcases Nat.lt_or_ge j k with h | h
            · exact HAll.out j h
            · have : j = k := by omega
              subst this; exact HK1.out
          case measure => simp [intOf]; omega
    · have e : k = la.length := by omega
      subst e
      go_wp2
      go_ret
      exact ⟨ret_bool (allLike_t HAll.out).symm, below_drewN HB2.out _⟩
/-- Every place in front of (i, j) equals its mirror. -/
def SymR (l : List C) (n i j : Nat) : Prop := ∀ p q, p < n → q < n → (p < i ∨ (p = i ∧ q < j)) → pEqual (ent l n p q) (ent l n q p) = true
theorem sym_spec {l : List C} {n : Nat} (hl : l.length = n * n) : allLike pEqual l (entries n (fun i j => ent l n j i) (n * n)) = (List.range (n * n)).all fun k => pEqual (ent l n (k / n) (k % n)) (ent l n (k % n) (k / n)) := by
  unfold allLike
  rw [hl, Bool.eq_iff_iff, List.all_eq_true, List.all_eq_true]
  refine forall_congr' fun k => imp_congr_right fun hk => ?_
  have hk' : k < n * n := List.mem_range.1 hk
  have e1 : cnC (l.getD k (0, 0)) = ent l n (k / n) (k % n) := (ent_self l n k).symm
  have e2 : cnC ((entries n (fun i j => ent l n j i) (n * n)).getD k (0, 0)) = ent l n (k % n) (k / n) := by
    unfold entries
    rw [List.getD_eq_getElem?_getD, List.getElem?_map, List.getElem?_range hk']
    show cnC (cnC _) = cnC _
    exact cnC_cnC _
  rw [e1, e2]
theorem sym_t {l : List C} {n : Nat} (hl : l.length = n * n) (h : SymR l n n 0) : allLike pEqual l (entries n (fun i j => ent l n j i) (n * n)) = true := by
  rw [sym_spec hl, List.all_eq_true]
  intro k hk
  have hk' : k < n * n := List.mem_range.1 hk
  have hn : 0 < n := by
    rcases Nat.eq_zero_or_pos n with h | h
    · subst h; simp at hk'
    · exact h
  have h1 : k / n < n := Nat.div_lt_of_lt_mul hk'
  exact h _ _ h1 (Nat.mod_lt _ hn) (.inl h1)
theorem sym_f {l : List C} {n p q : Nat} (hl : l.length = n * n) (hp : p < n) (hq : q < n) (h : pEqual (ent l n p q) (ent l n q p) = false) : allLike pEqual l (entries n (fun i j => ent l n j i) (n * n)) = false := by
  rw [sym_spec hl, Bool.eq_false_iff]
  intro h1
  have hk : p * n + q < n * n := by
    have h2 : (p + 1) * n ≤ n * n := Nat.mul_le_mul_right _ (by omega)
    rw [Nat.add_mul] at h2; omega
  have h3 := List.all_eq_true.1 h1 (p * n + q) (List.mem_range.2 hk)
  have e1 : (p * n + q) / n = p := Nat.div_eq_of_lt_le (by omega) (by rw [Nat.add_mul]; omega)
  have e2 : (p * n + q) % n = q := by rw [Nat.mul_comm, Nat.mul_add_mod, Nat.mod_eq_of_lt hq]
  simp only [e1, e2, h] at h3
  cases h3
theorem rSymmetric_no (r c : Int) (A : Option Addr) (n cap : Nat) (w : World) (h : okM r c n = false ∨ (okM r c n = true ∧ (r == c) = false)) :
    Calls Try.prog 49 #[mval r c (.slice A n cap)] w (RetBB false w) := by
  have HC := Lib.hid (rIs_c r c A n cap)
  rcases h with h | ⟨h, h'⟩
  all_goals
    rw [h] at HC
    go_enter Try.func49, Try.ntmps49
    go_wp2_with fail
    refine (HC.out _).mono ?_
    rintro e W1 ⟨rfl, hb⟩
    obtain ⟨⟨b0, b1, b2⟩, hbl, hs1⟩ := frame0 hb
    have HB := Lib.hid hbl
    clear hb hbl h hs1
    go_wp2
    go_ret
    exact ⟨rfl, HB.out⟩
set_option maxHeartbeats 1000000 in
theorem rSymmetric_sq (n : Nat) (A : Option Addr) (l : List C) (cap : Nat) (w : World) (hn : n ≤ 64) (hl : l.length = n * n) (hrd : Reads w w.heap.size A (nums l)) :
    Calls Try.prog 49 #[mval n n (.slice A l.length cap)] w (RetBB (allLike pEqual l (entries n (fun i j => ent l n j i) (n * n))) w) := by
  have HC := Lib.hid (rIs_c n n A l.length cap)
  rw [okN hn hn hl] at HC
  have HRd := Lib.hid hrd
  have HLen := Lib.hid hl
  clear hrd hl
  go_enter Try.func49, Try.ntmps49
  go_wp2_with fail
  refine (HC.out _).mono ?_
  rintro e W1 ⟨rfl, hb⟩
  obtain ⟨hbx, hb0, hs1⟩ := frame0 hb
  have HBX := Lib.hid hbx
  obtain ⟨b0, b1, b2⟩ := hbx
  have HB := Lib.hid hb0
  have HS := Lib.hid hs1
  clear hb hb0 hs1
  go_wp2
  go_loopw [3] (fun i wr => ∃ k : Nat, k ≤ n ∧ i = .int .i64 (k : Nat) ∧ SymR l n k 0 ∧ Below (w.heap.size + 1) W1 wr) (fun i _ => n - (intOf i).toNat)
  case atStart => exact ⟨0, Nat.zero_le _, rfl, fun p q _ _ h => by omega, Below.refl _ _⟩
  case round =>
    rename World => w0
    obtain ⟨k, hk, rfl, hs, hbel⟩ := hrel
    have HSy := Lib.hid hs
    have HBe := Lib.hid hbel
    obtain ⟨c0, c1, c2⟩ := Box.below (W := W1) HBX.out hbel (Nat.lt_succ_self _)
    clear hs hbel b0 b1 b2
    by_cases hlt : k < n
    · go_wp2
      go_loopw [4] (fun i wr => ∃ j : Nat, j ≤ n ∧ i = .int .i64 (j : Nat) ∧ SymR l n k j ∧ Below (w.heap.size + 1) W1 wr) (fun i _ => n - (intOf i).toNat)
      case atStart => exact ⟨0, Nat.zero_le _, rfl, HSy.out, HBe.out⟩
      case round =>
        rename World => wv
        obtain ⟨j, hj, rfl, hs2, hbv⟩ := hrel
        have HSy2 := Lib.hid hs2
        have HWr := Lib.hid hbv
        obtain ⟨d0, d1, d2⟩ := Box.below (W := W1) HBX.out hbv (Nat.lt_succ_self _)
        clear hs2 hbv c0 c1 c2
        by_cases hlt2 : j < n
        · have hbase : ∀ V, Below (w.heap.size + 1) W1 V → Below w.heap.size w V := fun V hV => HB.out.trans (hV.mono (Nat.le_succ _))
          have hw1 : w.heap.size + 1 ≤ wv.heap.size := Nat.le_trans HS.out HWr.out.size
          have hBv : ∀ V, Below wv.heap.size wv V → Below (w.heap.size + 1) W1 V := fun V hV => HWr.out.trans (hV.mono hw1)
          have K1 := Lib.hid (fun (V : World) (hV : Below wv.heap.size wv V) => from_v (rEnt_e n n A l cap k j V HLen.out hn hn hlt hlt2 ((HRd.out.below (hbase V (hBv V hV))).more (hbase V (hBv V hV)).size)) hV (Nat.le_refl _))
          have K2 := Lib.hid (fun (V : World) (hV : Below wv.heap.size wv V) => from_v (rEnt_e n n A l cap j k V HLen.out hn hn hlt2 hlt ((HRd.out.below (hbase V (hBv V hV))).more (hbase V (hBv V hV)).size)) hV (Nat.le_refl _))
          have hkeep : ∀ V, Below wv.heap.size wv V → V.cell? ⟨w.heap.size, 0, none⟩ = some (.int .i64 (n : Nat)) ∧ V.cell? ⟨w.heap.size, 1, none⟩ = some (.int .i64 (n : Nat)) ∧ V.cell? ⟨w.heap.size, 2, none⟩ = some (.slice A l.length cap) := fun V hV => Box.below (W := W1) HBX.out (hBv V hV) (Nat.lt_succ_self _)
          have HK := Lib.hid hkeep
          obtain ⟨x, hx⟩ : ∃ x, x = l.getD (k * n + j) (0, 0) := ⟨_, rfl⟩
          obtain ⟨y, hy⟩ : ∃ y, y = l.getD (j * n + k) (0, 0) := ⟨_, rfl⟩
          rw [← hx] at K1
          rw [← hy] at K2
          have HLK := Lib.hid (show pEqual (ent l n k j) (ent l n j k) = (feq .f64 x.1 y.1 && feq .f64 x.2 y.2) by
            unfold ent; rw [← hx, ← hy]; unfold pEqual; rw [show (cnC x).1 = cn .f64 x.1 from rfl, show (cnC y).1 = cn .f64 y.1 from rfl, show (cnC x).2 = cn .f64 x.2 from rfl, show (cnC y).2 = cn .f64 y.2 from rfl, feq_cn, feq_cn])
          have HFin := Lib.hid (fun (V : World) (hV : Below wv.heap.size wv V) => hbase V (hBv V hV))
          have HLt1 := Lib.hid hlt
          have HLt2 := Lib.hid hlt2
          clear hx hy hbase hBv hw1 hkeep
          cases e1 : feq .f64 x.1 y.1
          · have HF := Lib.hid (HLK.out.trans (by rw [e1]))
            go_wp2_with fail
            go_region_held3 (fun V => V.cell? ⟨w.heap.size, 0, none⟩ = some (.int .i64 (n : Nat)) ∧ V.cell? ⟨w.heap.size, 1, none⟩ = some (.int .i64 (n : Nat)) ∧ V.cell? ⟨w.heap.size, 2, none⟩ = some (.slice A l.length cap))
              (with_reducible refine HK.out _ ?_; (repeat (first | with_reducible assumption | with_reducible refine Below.drew ?_ | with_reducible exact Below.refl _ _)); done)
              (first
              | (go_at_call 70; (with_reducible refine (K1.out _ ?_).mono ?_); (repeat (first | with_reducible assumption | with_reducible refine Below.drew ?_ | with_reducible exact Below.refl _ _)); (rintro e V ⟨rfl, hV⟩); (obtain ⟨y0, y1, y2⟩ := HK.out V hV))
              | (go_at_call 70; (with_reducible refine (K2.out _ ?_).mono ?_); (repeat (first | with_reducible assumption | with_reducible refine Below.drew ?_ | with_reducible exact Below.refl _ _)); (rintro e V ⟨rfl, hV⟩); (obtain ⟨y0, y1, y2⟩ := HK.out V hV)))
            all_goals
              have HVV := Lib.hid ‹Below wv.heap.size wv _›
              go_wp2
              go_ret
              exact ⟨ret_bool (sym_f HLen.out HLt1.out HLt2.out HF.out).symm, HFin.out _ HVV.out⟩
          · cases e2 : feq .f64 x.2 y.2
            · have HF := Lib.hid (HLK.out.trans (by rw [e1, e2]))
              go_wp2_with fail
              go_region_held3 (fun V => V.cell? ⟨w.heap.size, 0, none⟩ = some (.int .i64 (n : Nat)) ∧ V.cell? ⟨w.heap.size, 1, none⟩ = some (.int .i64 (n : Nat)) ∧ V.cell? ⟨w.heap.size, 2, none⟩ = some (.slice A l.length cap))
                (with_reducible refine HK.out _ ?_; (repeat (first | with_reducible assumption | with_reducible refine Below.drew ?_ | with_reducible exact Below.refl _ _)); done)
                (first
                | (go_at_call 70; (with_reducible refine (K1.out _ ?_).mono ?_); (repeat (first | with_reducible assumption | with_reducible refine Below.drew ?_ | with_reducible exact Below.refl _ _)); (rintro e V ⟨rfl, hV⟩); (obtain ⟨y0, y1, y2⟩ := HK.out V hV))
                | (go_at_call 70; (with_reducible refine (K2.out _ ?_).mono ?_); (repeat (first | with_reducible assumption | with_reducible refine Below.drew ?_ | with_reducible exact Below.refl _ _)); (rintro e V ⟨rfl, hV⟩); (obtain ⟨y0, y1, y2⟩ := HK.out V hV)))
              all_goals
                have HVV := Lib.hid ‹Below wv.heap.size wv _›
                go_wp2
                go_ret
                exact ⟨ret_bool (sym_f HLen.out HLt1.out HLt2.out HF.out).symm, HFin.out _ HVV.out⟩
            · have HF := Lib.hid (HLK.out.trans (by rw [e1, e2]))
              go_wp2_with fail
              go_region_held3 (fun V => V.cell? ⟨w.heap.size, 0, none⟩ = some (.int .i64 (n : Nat)) ∧ V.cell? ⟨w.heap.size, 1, none⟩ = some (.int .i64 (n : Nat)) ∧ V.cell? ⟨w.heap.size, 2, none⟩ = some (.slice A l.length cap))
                (with_reducible refine HK.out _ ?_; (repeat (first | with_reducible assumption | with_reducible refine Below.drew ?_ | with_reducible exact Below.refl _ _)); done)
                (first
                | (go_at_call 70; (with_reducible refine (K1.out _ ?_).mono ?_); (repeat (first | with_reducible assumption | with_reducible refine Below.drew ?_ | with_reducible exact Below.refl _ _)); (rintro e V ⟨rfl, hV⟩); (obtain ⟨y0, y1, y2⟩ := HK.out V hV))
                | (go_at_call 70; (with_reducible refine (K2.out _ ?_).mono ?_); (repeat (first | with_reducible assumption | with_reducible refine Below.drew ?_ | with_reducible exact Below.refl _ _)); (rintro e V ⟨rfl, hV⟩); (obtain ⟨y0, y1, y2⟩ := HK.out V hV)))
              all_goals
                have HVV := Lib.hid ‹Below wv.heap.size wv _›
                go_wp2
                go_roundw
                case rel =>
                  refine ⟨j + 1, hlt2, by go_num, fun p q hp hq h => ?_, HWr.out.trans (HVV.out.mono ?_)⟩
                  · rcases h with h | ⟨h, h'⟩
                    · exact HSy2.out p q hp hq (.inl h)
                    · rcases Nat.lt_or_ge q j with h2 | h2
                      · exact HSy2.out p q hp hq (.inr ⟨h, h2⟩)
                      · have : q = j := by omega
                        subst this; subst h; exact HF.out
                  · exact Nat.le_trans HS.out HWr.out.size
                case measure => simp [intOf]; omega
        · have e : j = n := by omega
          subst e
          go_wp2
          go_roundw
          case rel => exact ⟨k + 1, hlt, by go_num, fun p q hp hq h => HSy2.out p q hp hq (by omega), HWr.out⟩
          case measure => simp [intOf]; omega
    · have e : k = n := by omega
      subst e
      go_wp2
      go_ret
      exact ⟨ret_bool (sym_t HLen.out HSy.out).symm, HB.out.trans (HBe.out.mono (Nat.le_succ _))⟩
end Go.Proofs.Ytdkcdcbbpebgmaa
namespace Go.Proofs.Ytdkcdcbbpebgmaa
open Go.RowKit Fl Ieee
set_option maxRecDepth 20000
attribute [local go_sem] run_store_float run_store_complex Fl.order_self Fl.order_self' Fl.order_eq Fl.order_ne Fl.order_lt Fl.order_gt
def okP (ra ca rb cb : Int) (na nb : Nat) : Bool := okM ra ca na && okM rb cb nb && (ra == rb) && (ca == cb)
def okQ (ra ca rb cb : Int) (na nb : Nat) : Bool := okM ra ca na && okM rb cb nb && (ca == rb)
def ifI (b : Bool) (x : Int) : Int := if b then x else 0
def erB (b : Bool) : Int := if b then 0 else 4
def bothL (op : C → C → C) (ra ca rb cb : Int) (la lb : List C) : List C := if okP ra ca rb cb la.length lb.length then entries ca.toNat (fun i j => op (ent la ca.toNat i j) (ent lb ca.toNat i j)) (ra.toNat * ca.toNat) else []
def mulL (ra ca rb cb : Int) (la lb : List C) : List C := if okQ ra ca rb cb la.length lb.length then entries cb.toNat (fun i j => dot la lb ca.toNat cb.toNat i j ca.toNat) (ra.toNat * cb.toNat) else []
def trL (r c : Int) (l : List C) : List C := if okM r c l.length then entries r.toNat (fun i j => ent l c.toNat j i) (c.toNat * r.toNat) else []
def cjL (r c : Int) (l : List C) : List C := if okM r c l.length then entries c.toNat (fun i j => pConj (ent l c.toNat i j)) (r.toNat * c.toNat) else []
def swB (r c : Int) (n : Nat) (i j : Int) : Bool := okM r c n && inR i r && inR j r
def swL (r c : Int) (l : List C) (i j : Int) : List C := if swB r c l.length i j then entries c.toNat (fun k d => ent l c.toNat (swp i.toNat j.toNat k) d) (r.toNat * c.toNat) else []
def swE (r c : Int) (n : Nat) (i j : Int) : Int := if okM r c n then (if inR i r && inR j r then 0 else 2) else 4
def likeB (lk : C → C → Bool) (ra ca rb cb : Int) (la lb : List C) : Bool := okP ra ca rb cb la.length lb.length && allLike lk la lb
def symB (r c : Int) (l : List C) : Bool := okM r c l.length && (r == c) && allLike pEqual l (entries r.toNat (fun i j => ent l r.toNat j i) (r.toNat * r.toNat))
theorem bothL_congr {la la' lb lb' : List C} (h : la.map cnC = la'.map cnC) (h' : lb.map cnC = lb'.map cnC) (op : C → C → C) (ra ca rb cb : Int) : bothL op ra ca rb cb la lb = bothL op ra ca rb cb la' lb' := by
  unfold bothL; rw [map_len h, map_len h', show (fun i j => op (ent la ca.toNat i j) (ent lb ca.toNat i j)) = (fun i j => op (ent la' ca.toNat i j) (ent lb' ca.toNat i j)) from funext fun i => funext fun j => by rw [ent_congr h, ent_congr h']]
theorem mulL_congr {la la' lb lb' : List C} (h : la.map cnC = la'.map cnC) (h' : lb.map cnC = lb'.map cnC) (ra ca rb cb : Int) : mulL ra ca rb cb la lb = mulL ra ca rb cb la' lb' := by
  unfold mulL; rw [map_len h, map_len h', show (fun i j => dot la lb ca.toNat cb.toNat i j ca.toNat) = (fun i j => dot la' lb' ca.toNat cb.toNat i j ca.toNat) from funext fun i => funext fun j => by rw [← dot_cn la, ← dot_cn la', h, h']]
theorem trL_congr {l l' : List C} (h : l.map cnC = l'.map cnC) (r c : Int) : trL r c l = trL r c l' := by
  unfold trL; rw [map_len h, show (fun i j => ent l c.toNat j i) = (fun i j => ent l' c.toNat j i) from funext fun i => funext fun j => ent_congr h _ _ _]
theorem cjL_congr {l l' : List C} (h : l.map cnC = l'.map cnC) (r c : Int) : cjL r c l = cjL r c l' := by
  unfold cjL; rw [map_len h, show (fun i j => pConj (ent l c.toNat i j)) = (fun i j => pConj (ent l' c.toNat i j)) from funext fun i => funext fun j => by rw [ent_congr h]]
theorem swL_congr {l l' : List C} (h : l.map cnC = l'.map cnC) (r c i j : Int) : swL r c l i j = swL r c l' i j := by
  unfold swL; rw [map_len h, show (fun k d => ent l c.toNat (swp i.toNat j.toNat k) d) = (fun k d => ent l' c.toNat (swp i.toNat j.toNat k) d) from funext fun i => funext fun j => ent_congr h _ _ _]
theorem getD_cn (l : List C) (k : Nat) : cnC ((l.map cnC).getD k (0, 0)) = cnC (l.getD k (0, 0)) := by
  rw [List.getD_eq_getElem?_getD, List.getD_eq_getElem?_getD, List.getElem?_map]
  cases l[k]? with
  | none => rfl
  | some z => exact cnC_cnC z
theorem allLike_congr {la la' lb lb' : List C} (h : la.map cnC = la'.map cnC) (h' : lb.map cnC = lb'.map cnC) (lk : C → C → Bool) : allLike lk la lb = allLike lk la' lb' := by
  unfold allLike
  rw [map_len h, show (fun k => lk (cnC (la.getD k (0, 0))) (cnC (lb.getD k (0, 0)))) = (fun k => lk (cnC (la'.getD k (0, 0))) (cnC (lb'.getD k (0, 0)))) from funext fun k => by rw [← getD_cn la, ← getD_cn la', ← getD_cn lb, ← getD_cn lb', h, h']]
theorem likeB_congr {la la' lb lb' : List C} (h : la.map cnC = la'.map cnC) (h' : lb.map cnC = lb'.map cnC) (lk : C → C → Bool) (ra ca rb cb : Int) : likeB lk ra ca rb cb la lb = likeB lk ra ca rb cb la' lb' := by
  unfold likeB; rw [map_len h, map_len h', allLike_congr h h']
theorem symB_congr {l l' : List C} (h : l.map cnC = l'.map cnC) (r c : Int) : symB r c l = symB r c l' := by
  unfold symB; rw [map_len h, show (fun i j => ent l r.toNat j i) = (fun i j => ent l' r.toNat j i) from funext fun i => funext fun j => ent_congr h _ _ _, allLike_congr h rfl]
theorem len_entries (c : Nat) (E : Nat → Nat → C) (n : Nat) : (entries c E n).length = n := by unfold entries; rw [List.length_map, List.length_range]
theorem okP_nat {ra ca rb cb : Int} {na nb : Nat} (h : okP ra ca rb cb na nb = true) : ∃ a b : Nat, ra = a ∧ ca = b ∧ rb = a ∧ cb = b ∧ a ≤ 64 ∧ b ≤ 64 ∧ na = a * b ∧ nb = a * b := by
  simp only [okP, Bool.and_eq_true, beq_iff_eq] at h
  obtain ⟨⟨⟨h1, h2⟩, rfl⟩, rfl⟩ := h
  obtain ⟨a, b, rfl, rfl, ha, hb, hn⟩ := okM_nat h1
  obtain ⟨p1, p2, p3, p4, p5⟩ := okM_iff.1 h2
  exact ⟨a, b, rfl, rfl, rfl, rfl, ha, hb, hn, by rw [← Int.natCast_mul] at p5; exact Int.ofNat_inj.1 p5⟩
theorem okQ_nat {ra ca rb cb : Int} {na nb : Nat} (h : okQ ra ca rb cb na nb = true) : ∃ a b d : Nat, ra = a ∧ ca = b ∧ rb = b ∧ cb = d ∧ a ≤ 64 ∧ b ≤ 64 ∧ d ≤ 64 ∧ na = a * b ∧ nb = b * d := by
  simp only [okQ, Bool.and_eq_true, beq_iff_eq] at h
  obtain ⟨⟨h1, h2⟩, rfl⟩ := h
  obtain ⟨a, b, rfl, rfl, ha, hb, hn⟩ := okM_nat h1
  obtain ⟨b', d, e, rfl, hb', hd, hn'⟩ := okM_nat h2
  have e' : b = b' := Int.ofNat_inj.1 e
  subst e'
  exact ⟨a, b, d, rfl, rfl, rfl, rfl, ha, hb, hd, hn, hn'⟩
theorem okQ_bad {ra ca rb cb : Int} {na nb : Nat} (h : okQ ra ca rb cb na nb = false) : okM ra ca na = false ∨ (okM ra ca na = true ∧ (okM rb cb nb = false ∨ (ca == rb) = false)) := by
  unfold okQ at h
  cases h1 : okM ra ca na
  · exact .inl rfl
  · cases h2 : okM rb cb nb
    · exact .inr ⟨rfl, .inl rfl⟩
    · rw [h1, h2] at h
      exact .inr ⟨rfl, .inr (by simpa using h)⟩
theorem bothL_len (op : C → C → C) (ra ca rb cb : Int) (la lb : List C) : (bothL op ra ca rb cb la lb).length ≤ 4096 := by
  unfold bothL
  cases h : okP ra ca rb cb la.length lb.length
  · simp
  · obtain ⟨a, b, rfl, rfl, rfl, rfl, ha, hb, -⟩ := okP_nat h
    rw [if_pos rfl, len_entries]; exact prod_small (by simpa using ha) (by simpa using hb)
theorem mulL_len (ra ca rb cb : Int) (la lb : List C) : (mulL ra ca rb cb la lb).length ≤ 4096 := by
  unfold mulL
  cases h : okQ ra ca rb cb la.length lb.length
  · simp
  · obtain ⟨a, b, d, rfl, rfl, rfl, rfl, ha, hb, hd, -⟩ := okQ_nat h
    rw [if_pos rfl, len_entries]; exact prod_small (by simpa using ha) (by simpa using hd)
theorem trL_len (r c : Int) (l : List C) : (trL r c l).length ≤ 4096 := by
  unfold trL
  cases h : okM r c l.length
  · simp
  · obtain ⟨a, b, rfl, rfl, ha, hb, -⟩ := okM_nat h
    rw [if_pos rfl, len_entries]; exact prod_small (by simpa using hb) (by simpa using ha)
theorem cjL_len (r c : Int) (l : List C) : (cjL r c l).length ≤ 4096 := by
  unfold cjL
  cases h : okM r c l.length
  · simp
  · obtain ⟨a, b, rfl, rfl, ha, hb, -⟩ := okM_nat h
    rw [if_pos rfl, len_entries]; exact prod_small (by simpa using ha) (by simpa using hb)
theorem swL_len (r c : Int) (l : List C) (i j : Int) : (swL r c l i j).length ≤ 4096 := by
  unfold swL
  cases h : swB r c l.length i j
  · simp
  · simp only [swB, Bool.and_eq_true] at h
    obtain ⟨a, b, rfl, rfl, ha, hb, -⟩ := okM_nat h.1.1
    rw [if_pos rfl, len_entries]; exact prod_small (by simpa using ha) (by simpa using hb)
theorem sw_bad {r i j : Int} (h : (inR i r && inR j r) = false) : decide (i < 0) = true ∨ (decide (i < 0) = false ∧ decide (i ≥ r) = true) ∨ (decide (i < 0) = false ∧ decide (i ≥ r) = false ∧ decide (j < 0) = true) ∨ (decide (i < 0) = false ∧ decide (i ≥ r) = false ∧ decide (j < 0) = false ∧ decide (j ≥ r) = true) := by
  simp only [inR, Bool.and_eq_false_iff, decide_eq_false_iff_not] at h
  simp only [decide_eq_true_eq, decide_eq_false_iff_not]
  omega
theorem Add_x (ra ca rb cb : Int) (A B : Option Addr) (la lb : List C) (capa capb : Nat) (w : World) (hA : Reads w w.heap.size A (nums la)) (hB : Reads w w.heap.size B (nums lb)) :
    Calls Try.prog 29 #[mval ra ca (.slice A la.length capa), mval rb cb (.slice B lb.length capb)] w (RetMxE (ifI (okP ra ca rb cb la.length lb.length) ra) (ifI (okP ra ca rb cb la.length lb.length) ca) (bothL pAdd ra ca rb cb la lb) (erB (okP ra ca rb cb la.length lb.length)) w) := by
  unfold bothL
  cases h : okP ra ca rb cb la.length lb.length
  · exact MAdd_bad ra ca rb cb A B _ _ capa capb w h
  · obtain ⟨a, b, rfl, rfl, rfl, rfl, ha, hb, h1, h2⟩ := okP_nat h
    simp only [Int.toNat_natCast]
    exact MAdd_c a b A B la lb capa capb w ha hb h1 h2 hA hB
theorem MSub_bad (ra ca rb cb : Int) (A B : Option Addr) (na nb capa capb : Nat) (w : World) (h : (okM ra ca na && okM rb cb nb && (ra == rb) && (ca == cb)) = false) :
    Calls Try.prog 30 #[mval ra ca (.slice A na capa), mval rb cb (.slice B nb capb)] w (RetMxE 0 0 [] 4 w) := by
  rcases both_bad_of h with h1 | ⟨h1, h2⟩
  · exact MSub_of _ _ _ _ _ _ A B _ _ capa capb _ 4 w fun V _ => both_first 79 ra ca rb cb A B na nb capa capb V h1
  · exact MSub_of _ _ _ _ _ _ A B _ _ capa capb _ 4 w fun V _ => both_second 79 ra ca rb cb A B na nb capa capb V h1 h2
theorem Sub_x (ra ca rb cb : Int) (A B : Option Addr) (la lb : List C) (capa capb : Nat) (w : World) (hA : Reads w w.heap.size A (nums la)) (hB : Reads w w.heap.size B (nums lb)) :
    Calls Try.prog 30 #[mval ra ca (.slice A la.length capa), mval rb cb (.slice B lb.length capb)] w (RetMxE (ifI (okP ra ca rb cb la.length lb.length) ra) (ifI (okP ra ca rb cb la.length lb.length) ca) (bothL pSub ra ca rb cb la lb) (erB (okP ra ca rb cb la.length lb.length)) w) := by
  unfold bothL
  cases h : okP ra ca rb cb la.length lb.length
  · exact MSub_bad ra ca rb cb A B _ _ capa capb w h
  · obtain ⟨a, b, rfl, rfl, rfl, rfl, ha, hb, h1, h2⟩ := okP_nat h
    simp only [Int.toNat_natCast]
    exact MSub_c a b A B la lb capa capb w ha hb h1 h2 hA hB
theorem rAdd_x (ra ca rb cb : Int) (A B : Option Addr) (la lb : List C) (capa capb : Nat) (w : World) (hA : Reads w w.heap.size A (nums la)) (hB : Reads w w.heap.size B (nums lb)) :
    Calls Try.prog 35 #[mval ra ca (.slice A la.length capa), mval rb cb (.slice B lb.length capb)] w (RetMxE (ifI (okP ra ca rb cb la.length lb.length) ra) (ifI (okP ra ca rb cb la.length lb.length) ca) (bothL pAdd ra ca rb cb la lb) (erB (okP ra ca rb cb la.length lb.length)) w) := by
  unfold bothL
  cases h : okP ra ca rb cb la.length lb.length
  · exact rMAdd_bad ra ca rb cb A B _ _ capa capb w h
  · obtain ⟨a, b, rfl, rfl, rfl, rfl, ha, hb, h1, h2⟩ := okP_nat h
    simp only [Int.toNat_natCast]
    exact rMAdd_c a b A B la lb capa capb w ha hb h1 h2 hA hB
theorem rSub_x (ra ca rb cb : Int) (A B : Option Addr) (la lb : List C) (capa capb : Nat) (w : World) (hA : Reads w w.heap.size A (nums la)) (hB : Reads w w.heap.size B (nums lb)) :
    Calls Try.prog 36 #[mval ra ca (.slice A la.length capa), mval rb cb (.slice B lb.length capb)] w (RetMxE (ifI (okP ra ca rb cb la.length lb.length) ra) (ifI (okP ra ca rb cb la.length lb.length) ca) (bothL pSub ra ca rb cb la lb) (erB (okP ra ca rb cb la.length lb.length)) w) := by
  unfold bothL
  cases h : okP ra ca rb cb la.length lb.length
  · exact rMSub_bad ra ca rb cb A B _ _ capa capb w h
  · obtain ⟨a, b, rfl, rfl, rfl, rfl, ha, hb, h1, h2⟩ := okP_nat h
    simp only [Int.toNat_natCast]
    exact rMSub_c a b A B la lb capa capb w ha hb h1 h2 hA hB
theorem Mul_x (ra ca rb cb : Int) (A B : Option Addr) (la lb : List C) (capa capb : Nat) (w : World) (hA : Reads w w.heap.size A (nums la)) (hB : Reads w w.heap.size B (nums lb)) :
    Calls Try.prog 31 #[mval ra ca (.slice A la.length capa), mval rb cb (.slice B lb.length capb)] w (RetMxE (ifI (okQ ra ca rb cb la.length lb.length) ra) (ifI (okQ ra ca rb cb la.length lb.length) cb) (mulL ra ca rb cb la lb) (erB (okQ ra ca rb cb la.length lb.length)) w) := by
  unfold mulL
  cases h : okQ ra ca rb cb la.length lb.length
  · rcases okQ_bad h with h1 | ⟨h1, h2⟩
    · exact Mul_first ra ca rb cb A B _ _ capa capb w h1
    · exact Mul_second ra ca rb cb A B _ _ capa capb w h1 h2
  · obtain ⟨a, b, d, rfl, rfl, rfl, rfl, ha, hb, hd, h1, h2⟩ := okQ_nat h
    simp only [Int.toNat_natCast]
    exact MMul_c a b d A B la lb capa capb w ha hb hd h1 h2 hA hB
theorem rMul_x (ra ca rb cb : Int) (A B : Option Addr) (la lb : List C) (capa capb : Nat) (w : World) (hA : Reads w w.heap.size A (nums la)) (hB : Reads w w.heap.size B (nums lb)) :
    Calls Try.prog 37 #[mval ra ca (.slice A la.length capa), mval rb cb (.slice B lb.length capb)] w (RetMxE (ifI (okQ ra ca rb cb la.length lb.length) ra) (ifI (okQ ra ca rb cb la.length lb.length) cb) (mulL ra ca rb cb la lb) (erB (okQ ra ca rb cb la.length lb.length)) w) := by
  unfold mulL
  cases h : okQ ra ca rb cb la.length lb.length
  · rcases okQ_bad h with h1 | ⟨h1, h2⟩
    · exact rMul_first ra ca rb cb A B _ _ capa capb w h1
    · exact rMul_second ra ca rb cb A B _ _ capa capb w h1 h2
  · obtain ⟨a, b, d, rfl, rfl, rfl, rfl, ha, hb, hd, h1, h2⟩ := okQ_nat h
    simp only [Int.toNat_natCast]
    exact rMul_c7 a b d A B la lb capa capb w ha hb hd h1 h2 hA hB
theorem Tr_x (r c : Int) (A : Option Addr) (l : List C) (cap : Nat) (w : World) (hA : Reads w w.heap.size A (nums l)) (hl : ltCs l) :
    Calls Try.prog 32 #[mval r c (.slice A l.length cap)] w (RetMxE (ifI (okM r c l.length) c) (ifI (okM r c l.length) r) (trL r c l) (erB (okM r c l.length)) w) := by
  unfold trL
  cases h : okM r c l.length
  · exact Transpose_no r c A _ cap w h
  · obtain ⟨a, b, rfl, rfl, ha, hb, h1⟩ := okM_nat h
    simp only [Int.toNat_natCast]
    exact Transpose_c a b A l cap w ha hb h1 hA hl
theorem rTr_x (r c : Int) (A : Option Addr) (l : List C) (cap : Nat) (w : World) (hA : Reads w w.heap.size A (nums l)) (hl : ltCs l) :
    Calls Try.prog 38 #[mval r c (.slice A l.length cap)] w (RetMxE (ifI (okM r c l.length) c) (ifI (okM r c l.length) r) (trL r c l) (erB (okM r c l.length)) w) := by
  unfold trL
  cases h : okM r c l.length
  · exact rTranspose_no r c A _ cap w h
  · obtain ⟨a, b, rfl, rfl, ha, hb, h1⟩ := okM_nat h
    simp only [Int.toNat_natCast]
    exact rTranspose_c a b A l cap w ha hb h1 hA hl
theorem Cj_x (r c : Int) (A : Option Addr) (l : List C) (cap : Nat) (w : World) (hA : Reads w w.heap.size A (nums l)) (hl : ltCs l) :
    Calls Try.prog 33 #[mval r c (.slice A l.length cap)] w (RetMxE (ifI (okM r c l.length) r) (ifI (okM r c l.length) c) (cjL r c l) (erB (okM r c l.length)) w) := by
  unfold cjL
  cases h : okM r c l.length
  · exact MConj_no r c A _ cap w h
  · obtain ⟨a, b, rfl, rfl, ha, hb, h1⟩ := okM_nat h
    simp only [Int.toNat_natCast]
    exact MConj_c a b A l cap w ha hb h1 hA hl
theorem rCj_x (r c : Int) (A : Option Addr) (l : List C) (cap : Nat) (w : World) (hA : Reads w w.heap.size A (nums l)) (hl : ltCs l) :
    Calls Try.prog 39 #[mval r c (.slice A l.length cap)] w (RetMxE (ifI (okM r c l.length) r) (ifI (okM r c l.length) c) (cjL r c l) (erB (okM r c l.length)) w) := by
  unfold cjL
  cases h : okM r c l.length
  · exact rConj_no r c A _ cap w h
  · obtain ⟨a, b, rfl, rfl, ha, hb, h1⟩ := okM_nat h
    simp only [Int.toNat_natCast]
    exact rMConj_c a b A l cap w ha hb h1 hA hl
theorem Sw_x (r c : Int) (A : Option Addr) (l : List C) (cap : Nat) (i j : Int) (w : World) (hA : Reads w w.heap.size A (nums l)) (hl : ltCs l) :
    Calls Try.prog 34 #[mval r c (.slice A l.length cap), .int .i64 i, .int .i64 j] w (RetMxE (ifI (swB r c l.length i j) r) (ifI (swB r c l.length i j) c) (swL r c l i j) (swE r c l.length i j) w) := by
  unfold swL swE swB
  cases h : okM r c l.length
  · exact Swap_no r c A _ cap i j w h
  · cases h' : (inR i r && inR j r)
    · have e : (true && inR i r && inR j r) = false := by simpa using h'
      rw [e]
      exact Swap_arg r c A _ cap i j w h (sw_bad h')
    · have e : (true && inR i r && inR j r) = true := by simpa using h'
      rw [e]
      obtain ⟨a, b, rfl, rfl, ha, hb, h1⟩ := okM_nat h
      simp only [Bool.and_eq_true] at h'
      obtain ⟨i, rfl, hi⟩ := inR_t h'.1
      obtain ⟨j, rfl, hj⟩ := inR_t h'.2
      simp only [Int.toNat_natCast]
      exact Swap_c a b i j A l cap w ha hb hi hj h1 hA hl
theorem rSw_x (r c : Int) (A : Option Addr) (l : List C) (cap : Nat) (i j : Int) (w : World) (hA : Reads w w.heap.size A (nums l)) (hl : ltCs l) :
    Calls Try.prog 40 #[mval r c (.slice A l.length cap), .int .i64 i, .int .i64 j] w (RetMxE (ifI (swB r c l.length i j) r) (ifI (swB r c l.length i j) c) (swL r c l i j) (swE r c l.length i j) w) := by
  unfold swL swE swB
  cases h : okM r c l.length
  · exact rSwap_no r c A _ cap i j w h
  · cases h' : (inR i r && inR j r)
    · have e : (true && inR i r && inR j r) = false := by simpa using h'
      rw [e]
      exact rSwap_arg r c A _ cap i j w h (sw_bad h')
    · have e : (true && inR i r && inR j r) = true := by simpa using h'
      rw [e]
      obtain ⟨a, b, rfl, rfl, ha, hb, h1⟩ := okM_nat h
      simp only [Bool.and_eq_true] at h'
      obtain ⟨i, rfl, hi⟩ := inR_t h'.1
      obtain ⟨j, rfl, hj⟩ := inR_t h'.2
      simp only [Int.toNat_natCast]
      exact rSwap_c a b i j A l cap w ha hb hi hj h1 hA hl
theorem psame_enters (args : Array Value) (W : World) : (callFunc 57 args).run Try.prog W = .ok (.enter 57 args) W :=
  enters_of Try.func57 (by kernel_rfl) rfl args W
theorem MSame_of (ra ca rb cb : Int) (A B : Option Addr) (na nb capa capb : Nat) (b : Bool) (w : World)
    (hB : ∀ V, Below w.heap.size w V → Calls Try.prog 87 #[mval ra ca (.slice A na capa), mval rb cb (.slice B nb capb), .func (.func 57) #[] #[]] V (RetBB b V)) :
    Calls Try.prog 42 #[mval ra ca (.slice A na capa), mval rb cb (.slice B nb capb)] w (RetBB b w) := by
  have HC := Lib.hid hB
  clear hB
  have hb0 : Below w.heap.size w ((w.alloc (.cells #[.int .i64 ra, .int .i64 ca, .slice A na capa] 28)).alloc (.cells #[.int .i64 rb, .int .i64 cb, .slice B nb capb] 28)) :=
    ((Below.refl _ w).new (Nat.le_refl _) _).new (Nat.le_refl _) _
  have HB0 := Lib.hid hb0
  clear hb0
  go_enter Try.func42, Try.ntmps42
  go_wp2_with fail
  refine (HC.out _ HB0.out).mono ?_
  rintro e W1 ⟨rfl, hb⟩
  have HB := Lib.hid (HB0.out.trans (hb.mono HB0.out.size))
  clear hb
  go_wp2
  go_ret
  exact ⟨rfl, HB.out⟩
theorem Same_x (ra ca rb cb : Int) (A B : Option Addr) (la lb : List C) (capa capb : Nat) (w : World) (hA : Reads w w.heap.size A (nums la)) (hB : Reads w w.heap.size B (nums lb)) :
    Calls Try.prog 42 #[mval ra ca (.slice A la.length capa), mval rb cb (.slice B lb.length capb)] w (RetBB (likeB pSame ra ca rb cb la lb) w) := by
  unfold likeB
  cases h : okP ra ca rb cb la.length lb.length
  · rw [Bool.false_and]
    rcases both_bad_of h with h1 | ⟨h1, h2⟩
    · exact MSame_of ra ca rb cb A B _ _ capa capb false w fun V _ => held_first _ ra ca rb cb A B _ _ capa capb V h1
    · exact MSame_of ra ca rb cb A B _ _ capa capb false w fun V _ => held_second _ ra ca rb cb A B _ _ capa capb V h1 h2
  · rw [Bool.true_and]
    have h' := h
    obtain ⟨a, b, rfl, rfl, rfl, rfl, ha, hb, h1, h2⟩ := okP_nat h
    exact MSame_of _ _ _ _ A B _ _ capa capb _ w fun V hV => held_c 57 pSame psame_enters (fun p q V => Same_c p.1 p.2 q.1 q.2 V) _ _ A B la lb capa capb V (okN ha hb h1) (okN ha hb h2) ((hA.below hV).more hV.size) ((hB.below hV).more hV.size)
theorem Equal_x (ra ca rb cb : Int) (A B : Option Addr) (la lb : List C) (capa capb : Nat) (w : World) (hA : Reads w w.heap.size A (nums la)) (hB : Reads w w.heap.size B (nums lb)) :
    Calls Try.prog 44 #[mval ra ca (.slice A la.length capa), mval rb cb (.slice B lb.length capb)] w (RetBB (likeB pEqual ra ca rb cb la lb) w) := by
  unfold likeB
  cases h : okP ra ca rb cb la.length lb.length
  · rw [Bool.false_and]
    rcases both_bad_of h with h1 | ⟨h1, h2⟩
    · exact MEqual_of ra ca rb cb A B _ _ capa capb false w fun V _ => held_first _ ra ca rb cb A B _ _ capa capb V h1
    · exact MEqual_of ra ca rb cb A B _ _ capa capb false w fun V _ => held_second _ ra ca rb cb A B _ _ capa capb V h1 h2
  · rw [Bool.true_and]
    have h' := h
    obtain ⟨a, b, rfl, rfl, rfl, rfl, ha, hb, h1, h2⟩ := okP_nat h
    exact MEqual_of _ _ _ _ A B _ _ capa capb _ w fun V hV => held_c 89 pEqual same_enters (fun p q V => Equal_c p.1 p.2 q.1 q.2 V) _ _ A B la lb capa capb V (okN ha hb h1) (okN ha hb h2) ((hA.below hV).more hV.size) ((hB.below hV).more hV.size)
theorem rSame_x (ra ca rb cb : Int) (A B : Option Addr) (la lb : List C) (capa capb : Nat) (w : World) (hA : Reads w w.heap.size A (nums la)) (hB : Reads w w.heap.size B (nums lb)) :
    Calls Try.prog 43 #[mval ra ca (.slice A la.length capa), mval rb cb (.slice B lb.length capb)] w (RetBB (likeB pSame ra ca rb cb la lb) w) := by
  unfold likeB
  cases h : okP ra ca rb cb la.length lb.length
  · rw [Bool.false_and]
    rcases both_bad_of h with h1 | ⟨h1, h2⟩
    · exact rSame_first ra ca rb cb A B _ _ capa capb w h1
    · exact rSame_second ra ca rb cb A B _ _ capa capb w h1 h2
  · rw [Bool.true_and]
    have h' := h
    obtain ⟨a, b, rfl, rfl, rfl, rfl, ha, hb, h1, h2⟩ := okP_nat h
    exact rSame_of pSame (fun p q V => rSame_c p.1 p.2 q.1 q.2 V) _ _ A B la lb capa capb w (okN ha hb h1) (okN ha hb h2) hA hB
theorem rEqual_x (ra ca rb cb : Int) (A B : Option Addr) (la lb : List C) (capa capb : Nat) (w : World) (hA : Reads w w.heap.size A (nums la)) (hB : Reads w w.heap.size B (nums lb)) :
    Calls Try.prog 45 #[mval ra ca (.slice A la.length capa), mval rb cb (.slice B lb.length capb)] w (RetBB (likeB pEqual ra ca rb cb la lb) w) := by
  unfold likeB
  cases h : okP ra ca rb cb la.length lb.length
  · rw [Bool.false_and]
    rcases both_bad_of h with h1 | ⟨h1, h2⟩
    · exact rEqual_first ra ca rb cb A B _ _ capa capb w h1
    · exact rEqual_second ra ca rb cb A B _ _ capa capb w h1 h2
  · rw [Bool.true_and]
    have h' := h
    obtain ⟨a, b, rfl, rfl, rfl, rfl, ha, hb, h1, h2⟩ := okP_nat h
    exact rEqual_of _ _ A B la lb capa capb w (okN ha hb h1) (okN ha hb h2) hA hB
theorem Symmetric_no (r c : Int) (A : Option Addr) (n cap : Nat) (w : World) (h : okM r c n = false) :
    Calls Try.prog 48 #[mval r c (.slice A n cap)] w (RetBB false w) := by
  have HC := Lib.hid (Transpose_no r c A n cap)
  have HH := Lib.hid (fun w => HC.out w h)
  clear h HC
  go_enter Try.func48, Try.ntmps48
  go_wp2_with fail
  refine (HH.out _).mono ?_
  rintro e W1 ⟨s, zs, rfl, hz, hlz, hown, hb⟩
  obtain ⟨sA, sn, sc, rfl, -⟩ := slice_of_own hown
  obtain ⟨hbx, hb0, hs1⟩ := frame0 hb
  have HB := Lib.hid hb0
  clear hb hb0 hs1 hbx hz hlz hown HH
  go_wp2
  go_ret
  exact ⟨rfl, HB.out.trans ((below_new _ _).mono HB.out.size)⟩
theorem Sym_x (r c : Int) (A : Option Addr) (l : List C) (cap : Nat) (w : World) (hA : Reads w w.heap.size A (nums l)) (hl : ltCs l) :
    Calls Try.prog 48 #[mval r c (.slice A l.length cap)] w (RetBB (symB r c l) w) := by
  unfold symB
  cases h : okM r c l.length
  · exact Symmetric_no r c A _ cap w h
  · obtain ⟨a, b, rfl, rfl, ha, hb, h1⟩ := okM_nat h
    cases h2 : ((a : Int) == (b : Int))
    · exact Symmetric_ns a b A l cap w ha hb (by intro e; subst e; simp at h2) h1 hA hl
    · have e : a = b := Int.ofNat_inj.1 (by simpa using h2)
      subst e
      simp only [Int.toNat_natCast, Bool.true_and]
      exact Symmetric_sq a A l cap w ha h1 hA hl
theorem rSym_x (r c : Int) (A : Option Addr) (l : List C) (cap : Nat) (w : World) (hA : Reads w w.heap.size A (nums l)) :
    Calls Try.prog 49 #[mval r c (.slice A l.length cap)] w (RetBB (symB r c l) w) := by
  unfold symB
  cases h : okM r c l.length
  · exact rSymmetric_no r c A _ cap w (.inl h)
  · obtain ⟨a, b, rfl, rfl, ha, hb, h1⟩ := okM_nat h
    cases h2 : ((a : Int) == (b : Int))
    · exact rSymmetric_no a b A _ cap w (.inr ⟨h, h2⟩)
    · have e : a = b := Int.ofNat_inj.1 (by simpa using h2)
      subst e
      simp only [Int.toNat_natCast, Bool.true_and]
      exact rSymmetric_sq a A l cap w ha h1 hA
/-- A matrix that is told, and its error. -/
def RetMO (R K : Int) (L : List C) (er : Int) (w : World) (e : Ending) (w' : World) : Prop :=
  ∃ (A : Option Addr) (zs : List C) (c : Nat), e = .returned (.tuple #[mval R K (.slice A zs.length c), .int .i64 er]) ∧ zs.map cnC = L ∧ ltCs zs ∧ Lst w' w.heap.size w'.heap.size A zs c ∧ Below w.heap.size w w'
theorem mo_of {P : Program} {f : FuncId} {args : Array Value} {w : World} {R K : Int} {L : List C} {er : Int} (h : Calls P f args w (RetMxE R K L er w)) : Calls P f args w (RetMO R K L er w) := by
  refine h.mono ?_
  rintro e w' ⟨s, zs, rfl, hz, hl, hown, hb⟩
  have el : L.length = zs.length := by rw [← hz, List.length_map]
  rw [el] at hown
  obtain ⟨A, m, c, rfl, rfl⟩ := slice_of_own hown
  exact ⟨A, zs, c, rfl, hz, hl, OwnIn.of hown, hb⟩
section
variable {ra ca rb cb : Int} {la la' lb lb' : List C} {A B : Option Addr} {capa capb : Nat} {i j : Int} {w : World}
theorem Add_l (h : la'.map cnC = la.map cnC) (h' : lb'.map cnC = lb.map cnC) (hA : Reads w w.heap.size A (nums la')) (hB : Reads w w.heap.size B (nums lb')) :
    Calls Try.prog 29 #[mval ra ca (.slice A la'.length capa), mval rb cb (.slice B lb'.length capb)] w (RetMO (ifI (okP ra ca rb cb la.length lb.length) ra) (ifI (okP ra ca rb cb la.length lb.length) ca) (bothL pAdd ra ca rb cb la lb) (erB (okP ra ca rb cb la.length lb.length)) w) := by
  have e := mo_of (Add_x ra ca rb cb A B la' lb' capa capb w hA hB)
  rw [bothL_congr h h'] at e
  rw [map_len h, map_len h'] at e ⊢
  exact e
theorem Sub_l (h : la'.map cnC = la.map cnC) (h' : lb'.map cnC = lb.map cnC) (hA : Reads w w.heap.size A (nums la')) (hB : Reads w w.heap.size B (nums lb')) :
    Calls Try.prog 30 #[mval ra ca (.slice A la'.length capa), mval rb cb (.slice B lb'.length capb)] w (RetMO (ifI (okP ra ca rb cb la.length lb.length) ra) (ifI (okP ra ca rb cb la.length lb.length) ca) (bothL pSub ra ca rb cb la lb) (erB (okP ra ca rb cb la.length lb.length)) w) := by
  have e := mo_of (Sub_x ra ca rb cb A B la' lb' capa capb w hA hB)
  rw [bothL_congr h h'] at e
  rw [map_len h, map_len h'] at e ⊢
  exact e
theorem Mul_l (h : la'.map cnC = la.map cnC) (h' : lb'.map cnC = lb.map cnC) (hA : Reads w w.heap.size A (nums la')) (hB : Reads w w.heap.size B (nums lb')) :
    Calls Try.prog 31 #[mval ra ca (.slice A la'.length capa), mval rb cb (.slice B lb'.length capb)] w (RetMO (ifI (okQ ra ca rb cb la.length lb.length) ra) (ifI (okQ ra ca rb cb la.length lb.length) cb) (mulL ra ca rb cb la lb) (erB (okQ ra ca rb cb la.length lb.length)) w) := by
  have e := mo_of (Mul_x ra ca rb cb A B la' lb' capa capb w hA hB)
  rw [mulL_congr h h'] at e
  rw [map_len h, map_len h'] at e ⊢
  exact e
theorem Same_l (h : la'.map cnC = la.map cnC) (h' : lb'.map cnC = lb.map cnC) (hA : Reads w w.heap.size A (nums la')) (hB : Reads w w.heap.size B (nums lb')) :
    Calls Try.prog 42 #[mval ra ca (.slice A la'.length capa), mval rb cb (.slice B lb'.length capb)] w (RetBB (likeB pSame ra ca rb cb la lb) w) := by
  have e := Same_x ra ca rb cb A B la' lb' capa capb w hA hB
  rw [likeB_congr h h'] at e
  exact e
theorem Equal_l (h : la'.map cnC = la.map cnC) (h' : lb'.map cnC = lb.map cnC) (hA : Reads w w.heap.size A (nums la')) (hB : Reads w w.heap.size B (nums lb')) :
    Calls Try.prog 44 #[mval ra ca (.slice A la'.length capa), mval rb cb (.slice B lb'.length capb)] w (RetBB (likeB pEqual ra ca rb cb la lb) w) := by
  have e := Equal_x ra ca rb cb A B la' lb' capa capb w hA hB
  rw [likeB_congr h h'] at e
  exact e
theorem Tr_l (h : la'.map cnC = la.map cnC) (hA : Reads w w.heap.size A (nums la')) (hl : ltCs la') :
    Calls Try.prog 32 #[mval ra ca (.slice A la'.length capa)] w (RetMO (ifI (okM ra ca la.length) ca) (ifI (okM ra ca la.length) ra) (trL ra ca la) (erB (okM ra ca la.length)) w) := by
  have e := mo_of (Tr_x ra ca A la' capa w hA hl)
  rw [trL_congr h] at e
  rw [map_len h] at e ⊢
  exact e
theorem Cj_l (h : la'.map cnC = la.map cnC) (hA : Reads w w.heap.size A (nums la')) (hl : ltCs la') :
    Calls Try.prog 33 #[mval ra ca (.slice A la'.length capa)] w (RetMO (ifI (okM ra ca la.length) ra) (ifI (okM ra ca la.length) ca) (cjL ra ca la) (erB (okM ra ca la.length)) w) := by
  have e := mo_of (Cj_x ra ca A la' capa w hA hl)
  rw [cjL_congr h] at e
  rw [map_len h] at e ⊢
  exact e
theorem Sw_l (h : la'.map cnC = la.map cnC) (hA : Reads w w.heap.size A (nums la')) (hl : ltCs la') :
    Calls Try.prog 34 #[mval ra ca (.slice A la'.length capa), .int .i64 i, .int .i64 j] w (RetMO (ifI (swB ra ca la.length i j) ra) (ifI (swB ra ca la.length i j) ca) (swL ra ca la i j) (swE ra ca la.length i j) w) := by
  have e := mo_of (Sw_x ra ca A la' capa i j w hA hl)
  rw [swL_congr h] at e
  rw [map_len h] at e ⊢
  exact e
theorem Sym_l (h : la'.map cnC = la.map cnC) (hA : Reads w w.heap.size A (nums la')) (hl : ltCs la') :
    Calls Try.prog 48 #[mval ra ca (.slice A la'.length capa)] w (RetBB (symB ra ca la) w) := by
  have e := Sym_x ra ca A la' capa w hA hl
  rw [symB_congr h] at e
  exact e
end
end Go.Proofs.Ytdkcdcbbpebgmaa
