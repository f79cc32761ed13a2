/- InverseMirror's walk. -/
import Derived.Test.YtajdfbjjgjpicaaIV4
import Derived.Test.YtajdfbjjgjpicaaArg
import Derived.Test.YtajdfbjjgjpicaaFr
namespace Go.Proofs.Ytajdfbjjgjpicaa
open Go.RowKit Fl Ieee
set_option maxRecDepth 20000
attribute [local go_sem] run_store_float run_store_complex Fl.order_self Fl.order_self'
/-- What is kept while the world grows: rows, lists that read. -/
structure Kp (w W : World) (rows : List (Nat × Obj)) (rds : List (Option Addr × List C)) : Prop where
  bel : Below w.heap.size w W
  row : ∀ p ∈ rows, W.heap[p.1]? = some p.2
  rd : ∀ p ∈ rds, Reads W W.heap.size p.1 (nums p.2)
namespace Kp
variable {w W V : World} {rows : List (Nat × Obj)} {rds : List (Option Addr × List C)}
theorem below (h : Kp w W rows rds) (hb : Below W.heap.size W V) : Kp w V rows rds :=
  ⟨h.bel.trans (hb.mono h.bel.size), fun p hp => row_keep hb (h.row p hp), fun p hp => ((h.rd p hp).below hb).more hb.size⟩
theorem add (h : Kp w W rows rds) {b : Nat} {o : Obj} (hr : W.heap[b]? = some o) : Kp w W ((b, o) :: rows) rds :=
  ⟨h.bel, fun p hp => by
    rcases List.mem_cons.1 hp with rfl | h1
    · exact hr
    · exact h.row p h1, h.rd⟩
theorem addR (h : Kp w W rows rds) {A : Option Addr} {l : List C} (hr : Reads W W.heap.size A (nums l)) : Kp w W rows ((A, l) :: rds) :=
  ⟨h.bel, h.row, fun p hp => by
    rcases List.mem_cons.1 hp with rfl | h1
    · exact hr
    · exact h.rd p h1⟩
theorem new (h : Kp w W rows rds) (o : Obj) : Kp w (W.alloc o) ((W.heap.size, o) :: rows) rds := (h.below (below_new W o)).add (heap_alloc_new W o)
theorem new2 (h : Kp w W rows rds) (o o' : Obj) : Kp w ((W.alloc o).alloc o') ((W.heap.size + 1, o') :: (W.heap.size, o) :: rows) rds :=
  ((h.new o).below (below_new _ o')).add (row_new2 W o o')
end Kp
theorem entries_cn {n : Nat} {E : Nat → Nat → C} (h : ∀ i j, i < n → j < n → pFinite (E i j) = true) : (entries n E (n * n)).map cnC = entries n E (n * n) := by
  have h1 : ∀ z ∈ entries n E (n * n), cnC z = z := fun z hz => by
    obtain ⟨p, hp, rfl⟩ := List.mem_map.1 hz
    have hp := List.mem_range.1 hp
    have hn0 : 0 < n := Nat.pos_of_ne_zero fun h0 => by subst h0; simp at hp
    exact fin_cn (h (p / n) (p % n) (Nat.div_lt_of_lt_mul hp) (Nat.mod_lt _ hn0))
  exact (List.map_congr_left h1).trans (List.map_id _)
theorem entries_conj2 {zs : List C} {E : Nat → Nat → C} {n : Nat} (hz : zs.map cnC = entries n E (n * n)) (hl : ltCs zs) : (conjB zs).map cnC = (entries n E (n * n)).map fun z => pConj (cnC z) := by
  rw [conjB_cn hl, ← hz, List.map_map]
  exact List.map_congr_left fun z _ => by show pConj (cnC z) = pConj (cnC (cnC z)); rw [cnC_cnC]
theorem RetMs.liesK {w w' : World} {r c : Int} {M : Nat} {l : List C} {e : Ending} (h : RetMs r c l w e w') (hM : l.length = M) : ∃ A cap, e = .returned (mval r c (.slice A M cap)) ∧ Reads w' w'.heap.size A (nums l) ∧ M ≤ cap ∧ Below w.heap.size w w' := by
  obtain ⟨A, cap, rfl, h1, h2, -, -, hb⟩ := h.lies
  exact ⟨A, cap, by rw [hM], h1, by omega, hb⟩
theorem carV_not (r c : Int) (l : List C) : isNaN double (carV r c l) = false := by
  unfold carV
  by_cases h : (ofI r c l).1 = 0
  · rw [if_pos h]
    cases hb : carBad r.toNat l
    · unfold carBad at hb
      rw [Bool.or_eq_false_iff] at hb
      exact hb.2
    · show isNaN double 0 = false
      decide
  · rw [if_neg h]; decide
/-- Both are inverted, whatever they are. -/
theorem both_inv {L : List C} {N : Nat} {f1 f2 : Int} (hN : N ≤ 64) (hl : L.length = N * N) (hlt : ltCs L) (hf : ofI N N L = (f1, f2)) :
    ∃ (R : Int) (la lb : List C) (K : Nat), la.length = K ∧ lb.length = K ∧ K ≤ 4096 ∧
      (∀ (B : Option Addr) (c : Nat) (V : World), N * N ≤ c → Reads V V.heap.size B (nums L) → Calls Try.prog 18 #[mval N N (.slice B (N * N) c)] V fun e w' => ∃ A2 c2, e = .returned (.tuple #[mval R R (.slice A2 K c2), .agg #[.int .i64 f1, .int .i64 f2]]) ∧ Reads w' w'.heap.size A2 (nums la) ∧ Below V.heap.size V w') ∧
      (∀ (B : Option Addr) (c : Nat) (V : World), N * N ≤ c → Reads V V.heap.size B (nums (conjB L)) → Calls Try.prog 18 #[mval N N (.slice B (N * N) c)] V fun e w' => ∃ A2 c2, e = .returned (.tuple #[mval R R (.slice A2 K c2), .agg #[.int .i64 f1, .int .i64 f2]]) ∧ Reads w' w'.heap.size A2 (nums lb) ∧ Below V.heap.size V w') ∧
      ∀ (k : Nat) (x y : C), (conjB la)[k]? = some x → lb[k]? = some y → pEqual (cnC x) (cnC y) = true := by
  have hl' : (conjB L).length = N * N := by rw [conjB_len, hl]
  have hm : ofI N N (conjB L) = (f1, f2) := (ofI_mir hN hl hlt).trans hf
  by_cases h0 : f1 = 0
  · have hI : (ofI N N L).1 = 0 := by rw [hf]; exact h0
    have hI' : (ofI N N (conjB L)).1 = 0 := by rw [hm]; exact h0
    obtain ⟨hF, hJ0, hz⟩ := ofI_ok hI
    obtain ⟨-, hJ0', -⟩ := ofI_ok hI'
    have hJ : ¬ invJ N (ofS N L) < N := hJ0
    have hJ' : ¬ invJ N (ofS N (conjB L)) < N := hJ0'
    have h2 : f1 = 0 ∧ f2 = 0 := by rw [hf] at hz; exact ⟨congrArg Prod.fst hz, congrArg Prod.snd hz⟩
    obtain ⟨rfl, rfl⟩ := h2
    obtain ⟨hmr, -⟩ := inv_mir hN hl hlt hF
    refine ⟨N, entries N (invE N (ofS N L)) (N * N), entries N (invE N (ofS N (conjB L))) (N * N), N * N, by simp [entries], by simp [entries], prod_small hN hN, fun B c V h1 h2 => ?_, fun B c V h1 h2 => ?_, ?_⟩
    · have h := Inv_c N N B L c V (by rw [hl]; exact h1) h2 hlt
      rw [hl] at h
      exact h.mono fun e w' h => by
        obtain ⟨A, c, h3, h4, -, h5⟩ := h.ok hI rfl
        exact ⟨A, c, h3, h4, h5⟩
    · have h := Inv_c N N B (conjB L) c V (by rw [hl']; exact h1) h2 (conjB_lt hlt)
      rw [hl'] at h
      exact h.mono fun e w' h => by
        obtain ⟨A, c, h3, h4, -, h5⟩ := h.ok hI' rfl
        exact ⟨A, c, h3, h4, h5⟩
    · have e1 := entries_cn (E := invE N (ofS N L)) (fun i j hi hj => inv_fin hJ hi hj)
      have e2 := entries_cn (E := invE N (ofS N (conjB L))) (fun i j hi hj => inv_fin hJ' hi hj)
      exact mir_equal (entries_conj2 e1 (inv_lt hN hl hlt hF)) e2 fun i j hi hj => ⟨(hmr i j hi hj).1, inv_fin hJ hi hj, (hmr i j hi hj).2.1⟩
  · have hI : (ofI N N L).1 ≠ 0 := by rw [hf]; exact h0
    have hI' : (ofI N N (conjB L)).1 ≠ 0 := by rw [hm]; exact h0
    refine ⟨0, [], [], 0, rfl, rfl, by decide, fun B c V h1 h2 => ?_, fun B c V h1 h2 => ?_, fun k x y hx => by simp [conjB] at hx⟩
    · have h := Inv_c N N B L c V (by rw [hl]; exact h1) h2 hlt
      rw [hl] at h
      exact h.mono fun e w' h => by
        obtain ⟨h3, h4⟩ := h.bad hI
        rw [hf] at h3
        exact ⟨none, 0, h3, fun hn => absurd hn (by simp [nums]), h4⟩
    · have h := Inv_c N N B (conjB L) c V (by rw [hl']; exact h1) h2 (conjB_lt hlt)
      rw [hl'] at h
      exact h.mono fun e w' h => by
        obtain ⟨h3, h4⟩ := h.bad hI'
        rw [hm] at h3
        exact ⟨none, 0, h3, fun hn => absurd hn (by simp [nums]), h4⟩
set_option maxHeartbeats 8000000 in
theorem Mirror12 (n : Int) (A : Option Addr) (l : List C) (cap : Nat) (w : World) (hr : Reads w w.heap.size A (zcells l)) (hlt : ltCs l) :
    Calls Try.prog 6 #[.int .i64 n, .slice A l.length cap] w fun e w' => e = .returned (.bool true) ∧ Below w.heap.size w w' := by
  have HSq := Lib.hid (Square_c n A l cap w hr)
  obtain ⟨N, hN⟩ : ∃ N, N = sqN n := ⟨_, rfl⟩
  have hN64 : N ≤ 64 := by rw [hN]; exact sqN_le n
  obtain ⟨L, hL⟩ : ∃ L, L = sqL l (N * N) := ⟨_, rfl⟩
  have hLl : L.length = N * N := by rw [hL]; exact sqL_len _ _
  have hLt : ltCs L := by rw [hL]; exact sqL_lt hlt _
  rw [← hN, ← hL] at HSq
  obtain ⟨f1, f2, hf⟩ : ∃ f1 f2, ofI N N L = (f1, f2) := ⟨_, _, rfl⟩
  obtain ⟨R, la, lb, K, hla, hlb, hK, hA, hB, hE⟩ := both_inv hN64 hLl hLt hf
  obtain ⟨h1, h2, hh⟩ : ∃ h1 h2, carF N N L = (h1, h2) := ⟨_, _, rfl⟩
  obtain ⟨cv, hcv⟩ : ∃ cv, cv = carV N N L := ⟨_, rfl⟩
  obtain ⟨hm1, hm2⟩ := car_mir hN64 hLl hLt
  have hnan : isNaN FloatKind.f64.format cv = false := by rw [hcv]; exact carV_not _ _ _
  obtain ⟨M, hM⟩ : ∃ M, M = N * N := ⟨_, rfl⟩
  have hM4 : M ≤ 4096 := by rw [hM]; exact prod_small hN64 hN64
  have hLM : L.length = M := hLl.trans hM.symm
  rw [← hM] at hA hB
  have HA := Lib.hid hA
  have HB := Lib.hid hB
  have HCa := Lib.hid (fun (B : Option Addr) (c : Nat) (V : World) (h3 : M ≤ c) (h4 : Reads V V.heap.size B (nums L)) => (show Calls Try.prog 20 #[mval N N (.slice B M c)] V fun e w' => e = .returned (.tuple #[.float .f64 cv, .agg #[.int .i64 h1, .int .i64 h2]]) ∧ Below V.heap.size V w' from by
    have h := Car_c N N B L c V (by rw [hLM]; exact h3) h4 hLt
    rw [hh, ← hcv, hLM] at h; exact h))
  have HCb := Lib.hid (fun (B : Option Addr) (c : Nat) (V : World) (h3 : M ≤ c) (h4 : Reads V V.heap.size B (nums (conjB L))) => (show Calls Try.prog 20 #[mval N N (.slice B M c)] V fun e w' => e = .returned (.tuple #[.float .f64 cv, .agg #[.int .i64 h1, .int .i64 h2]]) ∧ Below V.heap.size V w' from by
    have h := Car_c N N B (conjB L) c V (by rw [conjB_len, hLM]; exact h3) h4 (conjB_lt hLt)
    rw [hm1, hm2, hh, ← hcv, conjB_len, hLM] at h; exact h))
  have HCj := Lib.hid (fun (B : Option Addr) (c : Nat) (V : World) (h4 : Reads V V.heap.size B (nums L)) => (show Calls Try.prog 19 #[mval N N (.slice B M c)] V fun e w' => ∃ A c, e = .returned (mval N N (.slice A M c)) ∧ Reads w' w'.heap.size A (nums (conjB L)) ∧ M ≤ c ∧ Below V.heap.size V w' from by
    rw [← hLM]; exact (ConjMatrix_c N N B L c V (by omega) h4).mono fun e w' h => h.liesK (conjB_len L)))
  have HCl := Lib.hid (fun (B : Option Addr) (c : Nat) (V : World) (h4 : Reads V V.heap.size B (nums la)) => (show Calls Try.prog 19 #[mval R R (.slice B K c)] V fun e w' => ∃ A c, e = .returned (mval R R (.slice A K c)) ∧ Reads w' w'.heap.size A (nums (conjB la)) ∧ Below V.heap.size V w' from by
    rw [← hla]; exact (ConjMatrix_c R R B la c V (by omega) h4).mono fun e w' h => by
      obtain ⟨A, c, q1, q2, -, q3⟩ := h.liesK (conjB_len la)
      exact ⟨A, c, q1, q2, q3⟩))
  have HEq := Lib.hid (fun (B B' : Option Addr) (c c' : Nat) (V : World) (r1 : Reads V V.heap.size B (nums (conjB la))) (r2 : Reads V V.heap.size B' (nums lb)) =>
    EqualMatrix_t R R B B' (conjB la) lb K c c' V ((conjB_len la).trans hla) hlb hE (by omega) r1 r2)
  have HLM := Lib.hid hLM
  clear hr hlt hN hL hf hA hB hE hm1 hm2 hcv hLl hLt hh hN64 hla hlb hK hM4 hM hLM
  go_enter Try.func6, Try.ntmps6
  go_wp2_with fail
  refine HSq.out.mono ?_
  rintro e W1 hr
  obtain ⟨A1, c1, rfl, hrd, hle, hb⟩ := hr.liesK HLM.out
  have K1 := Lib.hid (((Kp.mk hb (rows := []) (rds := []) (by simp) (by simp)).addR hrd).new (.cells #[.int .i64 (N : Nat), .int .i64 (N : Nat), .slice A1 M c1] 28))
  have HLe := Lib.hid hle
  clear hr hrd hle hb
  go_wp2_with fail
  refine (HA.out _ _ _ HLe.out (K1.out.rd (A1, L) (by simp))).mono ?_
  rintro e W2 ⟨A2, c2, rfl, hrd, hb⟩
  have K2 := Lib.hid (((K1.out.below hb).addR hrd).new2 (.cells #[.int .i64 R, .int .i64 R, .slice A2 K c2] 28) (.cells #[.int .i64 f1, .int .i64 f2] 43))
  obtain ⟨x0, x1, x2, -⟩ := box3 (K2.out.row (W1.heap.size, .cells #[.int .i64 (N : Nat), .int .i64 (N : Nat), .slice A1 M c1] 28) (by simp))
  clear hrd hb K1
  go_wp2_with fail
  refine (HCj.out _ _ _ (K2.out.rd (A1, L) (by simp))).mono ?_
  rintro e W3 ⟨A3, c3, rfl, hrd, hle, hb⟩
  have K3 := Lib.hid ((K2.out.below hb).addR hrd)
  have HLe3 := Lib.hid hle
  clear hrd hb K2 x0 x1 x2 hle
  go_wp2_with fail
  refine (HB.out _ _ _ HLe3.out (K3.out.rd (A3, conjB L) (by simp))).mono ?_
  rintro e W4 ⟨A4, c4, rfl, hrd, hb⟩
  have K4 := Lib.hid (((K3.out.below hb).addR hrd).new2 (.cells #[.int .i64 R, .int .i64 R, .slice A4 K c4] 28) (.cells #[.int .i64 f1, .int .i64 f2] 43))
  obtain ⟨x0, x1, x2, -⟩ := box3 (K4.out.row (W1.heap.size, .cells #[.int .i64 (N : Nat), .int .i64 (N : Nat), .slice A1 M c1] 28) (by simp))
  clear hrd hb K3 HLe3
  go_wp2_with fail
  refine (HCa.out _ _ _ HLe.out (K4.out.rd (A1, L) (by simp))).mono ?_
  rintro e W5 ⟨rfl, hb⟩
  have K5 := Lib.hid ((K4.out.below hb).new (.cells #[.int .i64 h1, .int .i64 h2] 43))
  obtain ⟨x0, x1, x2, -⟩ := box3 (K5.out.row (W1.heap.size, .cells #[.int .i64 (N : Nat), .int .i64 (N : Nat), .slice A1 M c1] 28) (by simp))
  clear hb K4
  go_wp2_with fail
  refine (HCj.out _ _ _ (K5.out.rd (A1, L) (by simp))).mono ?_
  rintro e W6 ⟨A6, c6, rfl, hrd, hle, hb⟩
  have K6 := Lib.hid ((K5.out.below hb).addR hrd)
  have HLe6 := Lib.hid hle
  clear hrd hb K5 x0 x1 x2 hle
  go_wp2_with fail
  refine (HCb.out _ _ _ HLe6.out (K6.out.rd (A6, conjB L) (by simp))).mono ?_
  rintro e W7 ⟨rfl, hb⟩
  have K7 := Lib.hid ((K6.out.below hb).new (.cells #[.int .i64 h1, .int .i64 h2] 43))
  clear hb K6 HLe6 HCb HCa HA HB HCj HSq HLe HLM
  go_wp2_with fail
  generalize W7.alloc (.cells #[.int .i64 h1, .int .i64 h2] 43) = WX at K7 ⊢
  have HK := Lib.hid (fun (V : World) (hV : Below WX.heap.size WX V) => (show V.cell? ⟨W2.heap.size, 0, none⟩ = some (.int .i64 R) ∧ V.cell? ⟨W2.heap.size, 1, none⟩ = some (.int .i64 R) ∧ V.cell? ⟨W2.heap.size, 2, none⟩ = some (.slice A2 K c2) ∧ V.cell? ⟨W4.heap.size, 0, none⟩ = some (.int .i64 R) ∧ V.cell? ⟨W4.heap.size, 1, none⟩ = some (.int .i64 R) ∧ V.cell? ⟨W4.heap.size, 2, none⟩ = some (.slice A4 K c4) ∧ V.cell? ⟨W2.heap.size + 1, 0, none⟩ = some (.int .i64 f1) ∧ V.cell? ⟨W2.heap.size + 1, 1, none⟩ = some (.int .i64 f2) ∧ V.cell? ⟨W4.heap.size + 1, 0, none⟩ = some (.int .i64 f1) ∧ V.cell? ⟨W4.heap.size + 1, 1, none⟩ = some (.int .i64 f2) ∧ V.cell? ⟨W5.heap.size, 0, none⟩ = some (.int .i64 h1) ∧ V.cell? ⟨W5.heap.size, 1, none⟩ = some (.int .i64 h2) ∧ V.cell? ⟨W7.heap.size, 0, none⟩ = some (.int .i64 h1) ∧ V.cell? ⟨W7.heap.size, 1, none⟩ = some (.int .i64 h2) from by
    have hk := (K7.out.below hV).row
    obtain ⟨a0, a1, a2, -⟩ := box3 (hk (W2.heap.size, .cells #[.int .i64 R, .int .i64 R, .slice A2 K c2] 28) (by simp))
    obtain ⟨b0, b1, b2, -⟩ := box3 (hk (W4.heap.size, .cells #[.int .i64 R, .int .i64 R, .slice A4 K c4] 28) (by simp))
    obtain ⟨p0, p1, -⟩ := row2 (hk (W2.heap.size + 1, .cells #[.int .i64 f1, .int .i64 f2] 43) (by simp))
    obtain ⟨q0, q1, -⟩ := row2 (hk (W4.heap.size + 1, .cells #[.int .i64 f1, .int .i64 f2] 43) (by simp))
    obtain ⟨r0, r1, -⟩ := row2 (hk (W5.heap.size, .cells #[.int .i64 h1, .int .i64 h2] 43) (by simp))
    obtain ⟨s0, s1, -⟩ := row2 (hk (W7.heap.size, .cells #[.int .i64 h1, .int .i64 h2] 43) (by simp))
    exact ⟨a0, a1, a2, b0, b1, b2, p0, p1, q0, q1, r0, r1, s0, s1⟩))
  have HCl2 := Lib.hid (fun (V : World) (hV : Below WX.heap.size WX V) => HCl.out A2 c2 V ((K7.out.below hV).rd (A2, la) (by simp)))
  have HRb := Lib.hid (fun (V : World) (hV : Below WX.heap.size WX V) => (show Reads V V.heap.size A4 (nums lb) from (K7.out.below hV).rd (A4, lb) (by simp)))
  have HBl := Lib.hid K7.out.bel
  clear K7 HCl
  go_region_held3 (fun V => V.cell? ⟨W2.heap.size, 0, none⟩ = some (.int .i64 R) ∧ V.cell? ⟨W2.heap.size, 1, none⟩ = some (.int .i64 R) ∧ V.cell? ⟨W2.heap.size, 2, none⟩ = some (.slice A2 K c2) ∧ V.cell? ⟨W4.heap.size, 0, none⟩ = some (.int .i64 R) ∧ V.cell? ⟨W4.heap.size, 1, none⟩ = some (.int .i64 R) ∧ V.cell? ⟨W4.heap.size, 2, none⟩ = some (.slice A4 K c4) ∧ V.cell? ⟨W2.heap.size + 1, 0, none⟩ = some (.int .i64 f1) ∧ V.cell? ⟨W2.heap.size + 1, 1, none⟩ = some (.int .i64 f2) ∧ V.cell? ⟨W4.heap.size + 1, 0, none⟩ = some (.int .i64 f1) ∧ V.cell? ⟨W4.heap.size + 1, 1, none⟩ = some (.int .i64 f2) ∧ V.cell? ⟨W5.heap.size, 0, none⟩ = some (.int .i64 h1) ∧ V.cell? ⟨W5.heap.size, 1, none⟩ = some (.int .i64 h2) ∧ V.cell? ⟨W7.heap.size, 0, none⟩ = some (.int .i64 h1) ∧ V.cell? ⟨W7.heap.size, 1, none⟩ = some (.int .i64 h2))
    (with_reducible refine HK.out _ ?_; (repeat (first | with_reducible assumption | with_reducible refine Below.drew ?_ | with_reducible exact Below.refl _ _)); done)
    (first
    | (go_at_call 19; (with_reducible refine (HCl2.out _ ?_).mono ?_); (repeat (first | with_reducible assumption | with_reducible refine Below.drew ?_ | with_reducible exact Below.refl _ _)); (rintro e V ⟨A8, c8, rfl, hrd8, hb8⟩); (have hV : Below WX.heap.size WX V := Below.trans (by (repeat (first | with_reducible assumption | with_reducible refine Below.drew ?_ | with_reducible exact Below.refl _ _))) (Below.mono hb8 (by exact Nat.le_refl _))))
    | (go_at_call 21; (with_reducible refine (HEq.out A8 A4 c8 c4 V hrd8 (HRb.out V hV)).mono ?_); (rintro e V2 ⟨rfl, hb9⟩); (have hV2 : Below WX.heap.size WX V2 := hV.trans (hb9.mono hV.size)))
    | (go_at_call 22; (with_reducible refine (awake12_c _).mono ?_); (rintro e V3 ⟨rfl, hb10⟩); (have hV3 : Below WX.heap.size WX V3 := hV2.trans (hb10.mono hV2.size))))
  all_goals
    go_wp2
    go_ret
    exact ⟨rfl, HBl.out.trans (hV3.mono HBl.out.size)⟩
end Go.Proofs.Ytajdfbjjgjpicaa
namespace Go.Proofs.Ytajdfbjjgjpicaa
open Go.RowKit Go.WideElems Go.Maps Go.Deep Fl Ieee
set_option maxRecDepth 20000
theorem InverseMirror_walk (n : Int) (_ : (Lit.int .i64 n).wf = true) (A : Option Addr) (l : List C) (k : Nat) (_ : l.length ≤ k) (_ : k ≤ maxLen) (_ : A = none → k = 0) {w0 : World} (hr : Reads w0 w0.heap.size A (zcells l)) (hlt : ltCs l) (w : World) (hw : w0 = w := by rfl) :
    Calls Try.prog 6 #[.int .i64 n, .slice A l.length k] w fun e w' => e = .returned (.bool true) ∧ Below w.heap.size w w' := by
  subst hw
  exact Mirror12 n A l k _ hr hlt
/-! ### The row's step -/
namespace inverseMirror_frame
open Go.ChangeShapes Go.WideShapes Go.ChangeAt Go.RowKit
theorem own : ownKnob Try.prog.godebug = none := by kernel_rfl
set_option maxRecDepth 100000 in
theorem lifted (os : Os) (started : os.Started) (H : Type) (enc : TypeId × Value → H) :
    ReturnsInHanded {} Try.checked os 6 .any (Rows.inverseMirrorSpec.pre6 enc Try.prog Try.f6 Rows.inverseMirrorRow.domain false) (Rows.inverseMirrorSpec.post enc Try.prog Try.f6 false true false false) := by
  refine returnsInHanded_of_change (C := Try.checked) own started (by kernel_rfl) Try.func6
    (ChangeSpec.witness6 (enc := enc) (C := Try.checked) false ⟨#[], #[.int .i64 0, .slice none 0 0], []⟩ 8 (by kernel_rfl) (by kernel_rfl) (by kernel_rfl) (by kernel_rfl)) ?_
  intro W base args ds gs before hval0 hW hcnd _
  have hval : ∀ (j : Nat) t v, Try.f6.params[j]? = some t → args[j]? = some v → Value.okWide Try.prog W .any base t v := hval0
  have hW' := hW
  obtain ⟨p, q, hA0, hV, rfl, hfz, hnd⟩ := hW
  have hA : DataW.TrodAll enc Try.prog W 0 (fun _ => true) true Try.f6.params.toList args.toList ds p := hA0
  rw [Try.params6] at hA hval
  obtain ⟨v0, vs0, d0, ds0, p0, q0, hargs, rfl, rfl, h0, r0⟩ := trodAll_cons hA
  obtain ⟨v1, vs1, d1, ds1, p1, q1, rfl, rfl, rfl, h1, r1⟩ := trodAll_cons r0
  obtain ⟨rfl, rfl, rfl⟩ := trodAll_nil r1
  obtain rfl : args = #[v0, v1] := by cases args; simp_all
  obtain ⟨rfl, rfl⟩ := trodVars_none hV
  obtain ⟨a0, rfl, rfl, rfl, w0⟩ := open_int Try.underlying3 (hval 0 3 v0 rfl rfl) h0
  obtain ⟨A1, l1, k1, rfl, hk1, hm1, hn1, hrd1, hlt1⟩ := open_zs_arg (hval 1 22 v1 rfl rfl) h1
  clear hval0
  refine (InverseMirror_walk a0 w0 A1 l1 k1 hk1 hm1 hn1 hrd1 hlt1 W).mono fun e W' ⟨he, hg⟩ => ?_
  subst he
  have hT : ∀ t ∈ Try.f6.params.toList, t < Try.prog.types.size := fun t ht => of_decide_eq_true (List.all_eq_true.1 (show (Try.f6.params.toList.all fun t => decide (t < Try.prog.types.size)) = true by kernel_rfl) t ht)
  exact ⟨_, rfl, post_of_below (pv := []) hW' (fun _ _ _ => (trodAll_cons_mk (shut_bool Try.underlying4 _) trodAll_mk0)) (fun sp hsp => trodAll_move kidsP slicesP hT hA0 hg (fun p hp => hsp p (List.mem_append_left _ hp))) (fun _ _ => rfl) rfl
    hg (ok_one (by kernel_rfl) rfl (okWide_bool_mk Try.underlying4 _))⟩
theorem over : Rows.inverseMirrorRow.holds Try.pinned (OpenSpec.ofChange Rows.inverseMirrorSpec) :=
  OpenClaim.holds_of_wide 6 Try.f6 rfl rfl rfl rfl rfl rfl rfl ⟨rfl, rfl, rfl, rfl, rfl⟩ rfl rfl rfl rfl rfl (by kernel_rfl) Try.func6 (by kernel_rfl)
    (of_decide_eq_true (by kernel_rfl)) (by unfold Func.isWrapper; first | (rw [if_pos (by decide +kernel)]; kernel_rfl) | (rw [if_neg (by decide +kernel)]; exact ⟨rfl, rfl⟩))
    (fun os started H enc _ => lifted os started H enc)
end inverseMirror_frame

/-- THE STATEMENT. -/
theorem inverseMirror_holds : Rows.InverseMirrorSaid := inverseMirror_frame.over
#print axioms inverseMirror_holds
end Go.Proofs.Ytajdfbjjgjpicaa
