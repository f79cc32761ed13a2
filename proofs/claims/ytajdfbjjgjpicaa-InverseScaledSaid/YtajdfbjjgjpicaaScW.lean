/- InverseScaled's walk. -/
import Derived.Test.YtajdfbjjgjpicaaGr2
import Derived.Test.YtajdfbjjgjpicaaScR
import Derived.Test.YtajdfbjjgjpicaaLdx
import Derived.Test.YtajdfbjjgjpicaaArg
import Derived.Deep.CutBlock
import Derived.StillTailTactics
import Derived.Deep.DeepCutAuto
namespace Go.Proofs.Ytajdfbjjgjpicaa
open Go.RowKit Fl Ieee
set_option maxRecDepth 20000
attribute [local go_sem] run_store_float run_store_complex Fl.order_self Fl.order_self' Fl.order_eq Fl.order_ne Fl.negFloat_flip
/-- What is kept while the world grows: rows, lists that read. -/
structure Kp (w W : World) (rows : List (Nat × Obj)) (rds : List (Option Addr × List C)) : Prop where
  bel : Below w.heap.size w W
  row : ∀ p ∈ rows, W.heap[p.1]? = some p.2
  rd : ∀ p ∈ rds, Reads W W.heap.size p.1 (nums p.2)
namespace Kp
variable {w W V : World} {rows : List (Nat × Obj)} {rds : List (Option Addr × List C)}
theorem below (h : Kp w W rows rds) (hb : Below W.heap.size W V) : Kp w V rows rds :=
  ⟨h.bel.trans (hb.mono h.bel.size), fun p hp => row_keep hb (h.row p hp), fun p hp => ((h.rd p hp).below hb).more hb.size⟩
theorem add (h : Kp w W rows rds) {b : Nat} {o : Obj} (hr : W.heap[b]? = some o) : Kp w W ((b, o) :: rows) rds :=
  ⟨h.bel, fun p hp => by
    rcases List.mem_cons.1 hp with rfl | h1
    · exact hr
    · exact h.row p h1, h.rd⟩
theorem addR (h : Kp w W rows rds) {A : Option Addr} {l : List C} (hr : Reads W W.heap.size A (nums l)) : Kp w W rows ((A, l) :: rds) :=
  ⟨h.bel, h.row, fun p hp => by
    rcases List.mem_cons.1 hp with rfl | h1
    · exact hr
    · exact h.rd p h1⟩
theorem new (h : Kp w W rows rds) (o : Obj) : Kp w (W.alloc o) ((W.heap.size, o) :: rows) rds := (h.below (below_new W o)).add (heap_alloc_new W o)
theorem new2 (h : Kp w W rows rds) (o o' : Obj) : Kp w ((W.alloc o).alloc o') ((W.heap.size + 1, o') :: (W.heap.size, o) :: rows) rds :=
  ((h.new o).below (below_new _ o')).add (row_new2 W o o')
end Kp
theorem bits_of_fin {op : BinOp} {x y : Nat} (h : fin double (fop op .f64 x y)) : floatBits op .f64 x y = some (fop op .f64 x y) := by
  unfold fop at h ⊢
  cases hb : floatBits op .f64 x y with
  | some r => rfl
  | none =>
    rw [hb] at h
    have := fin_nan h
    rw [show (none : Option Nat).getD (qn .f64) = qn .f64 from rfl, qn_nan] at this
    cases this
theorem inv_one {L : List C} {N M : Nat} (hM : M = N * N) (hl : L.length = M) (hlt : ltCs L) :
    ∃ (R : Int) (la : List C) (K : Nat), la.length = K ∧ K ≤ M ∧ ((ofI N N L).1 = 0 → la = entries N (invE N (ofS N L)) M ∧ K = M ∧ R = N) ∧ ((ofI N N L).1 ≠ 0 → K = 0 ∧ R = 0) ∧
      (∀ (B : Option Addr) (c : Nat) (V : World), M ≤ c → Reads V V.heap.size B (nums L) → Calls Try.prog 18 #[mval N N (.slice B M c)] V fun e w' => ∃ A2 c2, e = .returned (.tuple #[mval R R (.slice A2 K c2), .agg #[.int .i64 (ofI N N L).1, .int .i64 (ofI N N L).2]]) ∧ Reads w' w'.heap.size A2 (nums la) ∧ Below V.heap.size V w') := by
  by_cases h0 : (ofI N N L).1 = 0
  · refine ⟨N, entries N (invE N (ofS N L)) M, M, by simp [entries], Nat.le_refl _, fun _ => ⟨rfl, rfl, rfl⟩, fun e => absurd h0 e, fun B c V h1 h2 => ?_⟩
    have h := Inv_c N N B L c V (by rw [hl]; exact h1) h2 hlt
    rw [hl] at h
    obtain ⟨-, -, hz⟩ := ofI_ok h0
    rw [hz]
    exact h.mono fun e w' h => by
      obtain ⟨A, c, h3, h4, -, h5⟩ := h.ok h0 hM
      exact ⟨A, c, h3, h4, h5⟩
  · refine ⟨0, [], 0, rfl, Nat.zero_le _, fun e => absurd e h0, fun _ => ⟨rfl, rfl⟩, fun B c V h1 h2 => ?_⟩
    have h := Inv_c N N B L c V (by rw [hl]; exact h1) h2 hlt
    rw [hl] at h
    exact h.mono fun e w' h => by
      obtain ⟨h3, h4⟩ := h.bad h0
      exact ⟨none, 0, h3, fun hn => absurd hn (by simp [nums]), h4⟩
theorem car_one {L : List C} {N M : Nat} (hl : L.length = M) (hlt : ltCs L) (B : Option Addr) (c : Nat) (V : World) (h1 : M ≤ c) (h2 : Reads V V.heap.size B (nums L)) :
    Calls Try.prog 20 #[mval N N (.slice B M c)] V fun e w' => e = .returned (.tuple #[.float .f64 (carV N N L), .agg #[.int .i64 (carF N N L).1, .int .i64 (carF N N L).2]]) ∧ Below V.heap.size V w' := by
  have h := Car_c N N B L c V (by rw [hl]; exact h1) h2 hlt
  rw [hl] at h; exact h
/-- All that the walk asks of both matrices. -/
theorem scal_both {li : List Int} {N M mm : Nat} (hM : M = N * N) (hN : N ≤ 3) (h1 : 959 ≤ mm) (h2 : mm ≤ 1087) (T : Nat) (hT : T = 4503599627370496 * mm) :
    ∃ (R f1 f2 g1 g2 : Int) (la lb : List C) (K x y : Nat), la.length = K ∧ lb.length = K ∧ K ≤ 9 ∧ feq .f64 x y = true ∧
      (∀ (B : Option Addr) (c : Nat) (V : World), M ≤ c → Reads V V.heap.size B (nums (lmS li M)) → Calls Try.prog 18 #[mval N N (.slice B M c)] V fun e w' => ∃ A2 c2, e = .returned (.tuple #[mval R R (.slice A2 K c2), .agg #[.int .i64 f1, .int .i64 f2]]) ∧ Reads w' w'.heap.size A2 (nums la) ∧ Below V.heap.size V w') ∧
      (∀ (B : Option Addr) (c : Nat) (V : World), M ≤ c → Reads V V.heap.size B (nums (lwS T li M)) → Calls Try.prog 18 #[mval N N (.slice B M c)] V fun e w' => ∃ A2 c2, e = .returned (.tuple #[mval R R (.slice A2 K c2), .agg #[.int .i64 f1, .int .i64 f2]]) ∧ Reads w' w'.heap.size A2 (nums lb) ∧ Below V.heap.size V w') ∧
      (∀ (B : Option Addr) (c : Nat) (V : World), M ≤ c → Reads V V.heap.size B (nums (lmS li M)) → Calls Try.prog 20 #[mval N N (.slice B M c)] V fun e w' => e = .returned (.tuple #[.float .f64 x, .agg #[.int .i64 g1, .int .i64 g2]]) ∧ Below V.heap.size V w') ∧
      (∀ (B : Option Addr) (c : Nat) (V : World), M ≤ c → Reads V V.heap.size B (nums (lwS T li M)) → Calls Try.prog 20 #[mval N N (.slice B M c)] V fun e w' => e = .returned (.tuple #[.float .f64 y, .agg #[.int .i64 g1, .int .i64 g2]]) ∧ Below V.heap.size V w') ∧
      ∀ (q : Nat) (u v : C), la[q]? = some u → lb[q]? = some v → feq .f64 u.1 (fmul T v.1) = true ∧ feq .f64 u.2 (fmul T v.2) = true ∧ fin double v.1 ∧ fin double v.2 ∧ fin double (fmul T v.1) ∧ fin double (fmul T v.2) := by
  obtain ⟨e1, e2, e3, e4⟩ := scal_facts (li := li) hM hN h1 h2 T hT
  have hM9 : M ≤ 9 := by rw [hM]; exact Nat.mul_le_mul hN hN
  have l1 : (lmS li M).length = M := by simp [lmS]
  have l2 : (lwS T li M).length = M := by simp [lwS]
  obtain ⟨R, la, K, q1, q2, q3, q4, q5⟩ := inv_one (L := lmS li M) hM l1 (lmS_lt _ _)
  obtain ⟨R', lb, K', r1, r2, r3, r4, r5⟩ := inv_one (L := lwS T li M) hM l2 (lwS_lt _ _ _)
  rw [e1] at r3 r4 r5
  have hRK : R' = R ∧ K' = K := by
    by_cases h0 : (ofI N N (lmS li M)).1 = 0
    · obtain ⟨-, a, b⟩ := q3 h0
      obtain ⟨-, c, d⟩ := r3 h0
      exact ⟨d.trans b.symm, c.trans a.symm⟩
    · obtain ⟨a, b⟩ := q4 h0
      obtain ⟨c, d⟩ := r4 h0
      exact ⟨d.trans b.symm, c.trans a.symm⟩
  obtain ⟨rfl, rfl⟩ := hRK
  refine ⟨R', _, _, _, _, la, lb, K', _, _, q1, r1, by omega, e3, q5, r5, fun B c V => car_one l1 (lmS_lt _ _) B c V, ?_, ?_⟩
  · rw [← e2]
    exact fun B c V => car_one l2 (lwS_lt _ _ _) B c V
  · intro q u v hu hv
    by_cases h0 : (ofI N N (lmS li M)).1 = 0
    · obtain ⟨rfl, rfl, -⟩ := q3 h0
      obtain ⟨rfl, -, -⟩ := r3 h0
      have hq : q < K' := by
        rcases Nat.lt_or_ge q K' with h | h
        · exact h
        · rw [List.getElem?_eq_none (by rw [q1]; exact h)] at hu; cases hu
      have hn0 : 0 < N := Nat.pos_of_ne_zero fun e => by subst e; simp at hM; omega
      have hi : q / N < N := Nat.div_lt_of_lt_mul (by rw [← hM]; exact hq)
      have hj := Nat.mod_lt q hn0
      unfold entries at hu hv
      rw [List.getElem?_map, List.getElem?_range hq] at hu hv
      have eu : invE N (ofS N (lmS li K')) (q / N) (q % N) = u := Option.some.inj hu
      have ev : invE N (ofS N (lwS T li K')) (q / N) (q % N) = v := Option.some.inj hv
      have h5 := e4 h0 _ _ hi hj
      rw [eu, ev] at h5
      exact h5
    · obtain ⟨a, -⟩ := q4 h0
      subst a
      rw [List.length_eq_zero_iff.1 q1] at hu; cases hu
set_option linter.unusedSimpArgs false in
set_option maxHeartbeats 1000000 in
theorem Scaled12 (n : Int) (A : Option Addr) (li : List Int) (cap : Nat) (k : Int) (w : World) (hr : Reads w w.heap.size A (zints li)) :
    Calls Try.prog 8 #[.int .i64 n, .slice A li.length cap, .int .i64 k] w fun e w' => e = .returned (.bool true) ∧ Below w.heap.size w w' := by
  obtain ⟨i0, hi, hz0, hz1, hz2⟩ := info_parts infoNum
  obtain ⟨N, hN⟩ : ∃ N : Nat, (N : Int) = n % 4 := ⟨(n % 4).toNat, by omega⟩
  have hN3 : N ≤ 3 := by omega
  have hP := Lib.hid (fun W => Pick_c n 4 (by omega) (by omega) W)
  rw [← hN] at hP
  obtain ⟨K0, hK0⟩ : ∃ K0 : Nat, (K0 : Int) = k % 129 := ⟨(k % 129).toNat, by omega⟩
  have hK128 : K0 ≤ 128 := by omega
  have hPk := Lib.hid (fun W => Pick_c k 129 (by omega) (by omega) W)
  rw [← hK0] at hPk
  obtain ⟨K, hK⟩ : ∃ K : Int, (K0 : Int) - 64 = K := ⟨_, rfl⟩
  obtain ⟨mm, hmm⟩ : ∃ mm : Nat, mm = K0 + 959 := ⟨_, rfl⟩
  have hL := Lib.hid (fun W => Ldexp1_c mm K (by omega) (by omega) (by omega) W)
  have HR := Lib.hid hr
  have HMm := Lib.hid hmm
  clear hr hN hK0 hmm
  go_enter Try.func8, Try.ntmps8
  go_wp2_with fail
  refine (hP.out _).mono ?_
  rintro e w1 ⟨rfl, rfl⟩
  go_wp2_with fail
  refine (hPk.out _).mono ?_
  rintro e w1 ⟨rfl, rfl⟩
  go_wp2_with fail
  refine (hL.out _).mono ?_
  rintro e w1 ⟨T, n1, rfl, gT, bT, rfl⟩
  have hT : T = 4503599627370496 * mm := by
    have hm1 := HMm.out
    have hX := ex_two (n := mm - 1) (by omega)
    have em : mm - 1 + 1 = mm := by omega
    rw [em, binade64] at hX
    exact cn_only' gT hX.nan
  obtain ⟨M, hM⟩ : ∃ M, M = N * N := ⟨_, rfl⟩
  have hM9 : M ≤ 9 := by rw [hM]; exact Nat.mul_le_mul hN3 hN3
  have hm : wrap64 ((N : Int) * (N : Int)) = (M : Int) := by rw [hM, ← Int.natCast_mul, ← hM]; unfold wrap64; omega
  have HG0 := Lib.hid (show Gr w (((w.alloc (.cells #[.int .i64 (N : Nat), .int .i64 (N : Nat), .slice none 0 0] 28)).alloc (.cells #[.int .i64 (N : Nat), .int .i64 (N : Nat), .slice none 0 0] 28)).drewN n1) (w.heap.size + 2) w.heap.size (w.heap.size + 1) N [] [] (.slice none 0 0) (.slice none 0 0) from
    { bel := below_drewN ((below_new _ _).new (Nat.le_refl _) _) n1
      l1 := Nat.le_refl _
      l2 := by omega
      u1 := by omega
      u2 := by omega
      ne := by omega
      sz := by show _ ≤ ((w.alloc _).alloc _).heap.size; simp
      x1 := row_alloc (heap_alloc_new _ _)
      x2 := row_new2 _ _ _
      o1 := World.ownsRow_nil _ _ _ _
      o2 := World.ownsRow_nil _ _ _ _
      ap := fun c hc => by cases hc })
  have HT := Lib.hid hT
  have HM := Lib.hid hM
  clear gT hL hP hPk hT hM hK
  generalize ((w.alloc (.cells #[.int .i64 (N : Nat), .int .i64 (N : Nat), .slice none 0 0] 28)).alloc (.cells #[.int .i64 (N : Nat), .int .i64 (N : Nat), .slice none 0 0] 28)).drewN n1 = W0 at HG0 ⊢
  go_wp2
  go_loopw [10, 11] (fun i _ wr => ∃ (q : Nat) (s1 s2 : Value), q ≤ M ∧ i = .int .i64 (q : Nat) ∧ Gr w wr (w.heap.size + 2) w.heap.size (w.heap.size + 1) N (lmS li q) (lwS T li q) s1 s2) (fun i _ _ => M - (intOf i).toNat)
  case atStart => exact ⟨0, _, _, Nat.zero_le _, rfl, HG0.out⟩
  case round =>
    obtain ⟨q, s1, s2, hq, rfl, hg⟩ := hrel
    have HG := Lib.hid hg
    obtain ⟨c1, c2⟩ := hg.cells
    have hqb : (q : Int) + 1 ≤ 10 := by omega
    clear hg
    by_cases hlt : q < M
    · have hlti : (q : Int) < (M : Int) := Int.ofNat_lt.2 hlt
      obtain ⟨bb, hbb⟩ : ∃ bb, decide (q < li.length) = bb := ⟨_, rfl⟩
      have HBB := Lib.hid hbb
      obtain ⟨z1, hzq⟩ : ∃ z1, z1 = (zSc li q).1 := ⟨_, rfl⟩
      have HZ1 := Lib.hid hzq
      clear hzq
      go_upto_if 44 with fail
      clear hbb
      go_cut [11] (fun s wx => s = .complex .f64 z1 0 ∧ wx = wr)
      case first =>
        cases bb
        · have hl2 : ¬ q < li.length := of_decide_eq_false HBB.out
          have hk0 : z1 = 0 := by rw [HZ1.out]; unfold zSc; rw [if_neg hl2]
          subst hk0
          clear hl2
          go_wp2
          go_meet
          case rel => exact ⟨rfl, rfl⟩
        · have hl2 : q < li.length := of_decide_eq_true HBB.out
          have hl2i : (q : Int) < (li.length : Int) := Int.ofNat_lt.2 hl2
          obtain ⟨x, hx⟩ : ∃ x, x = li.getD q 0 := ⟨_, rfl⟩
          have hxz : (zints li)[q]? = some (.int .i64 x) := by rw [hx]; unfold zints; rw [List.getElem?_map, List.getD_eq_getElem?_getD, List.getElem?_eq_getElem hl2]; rfl
          obtain ⟨ad, rfl, hab, hc1⟩ := (HR.out.below HG.out.bel).at_ hxz
          have HZx := Lib.hid (show z1 = FloatKind.f64.nearest (x.tmod 1048576) by rw [HZ1.out, hx]; unfold zSc; rw [if_pos hl2])
          clear hxz hab hx
          go_wp2
          go_meet
          case rel => exact ⟨by rw [HZx.out]; rfl, rfl⟩
      case rest =>
        obtain ⟨rfl, rfl⟩ := hcut
        have hqb2 : q + 1 ≤ 9 := by omega
        have H63 := Lib.hid (show q + 1 ≤ maxLen by unfold maxLen; omega)
        have HBy := Lib.hid (show (q + 1) * 16 ≤ 140737488355328 by omega)
        have HLm := Lib.hid (show (lmS li q).length = q by simp [lmS])
        have HLw := Lib.hid (show (lwS T li q).length = q by simp [lwS])
        have HO1 := Lib.hid (show wc.ownsRow (w.heap.size + 2) 53 1 s1 q (nums (lmS li q)) by have := HG.out.o1; rwa [HLm.out] at this)
        clear hqb2
        go_wp2_with (at_builtin; refine wpList_append_stays _ rfl (.tmp 53) (.tmp 55) 25 rfl (w.heap.size + 2) 53 i0 (.complex .f64 0 0) 16 Try.underlying25 hi hz0 hz1 hz2 rfl s1 q (nums (lmS li q)) rfl (HO1.out.alloc _) ⟨wc.heap.size, 0, none⟩ 1 1 [.complex .f64 z1 0] rfl rfl (cell_one_new _ _ _) (by intro u hu; simp at hu; subst hu; rfl) H63.out HBy.out (HG.out.szo _) ?_; intro v1 w3 hown1 hgr1 hv1; obtain ⟨q1, cp1, e1, -, -⟩ := hown1.form (Nat.succ_pos q); subst e1; obtain ⟨d1, d2, f1, hG3⟩ := HG.out.app (z := (z1, 0)) HLm.out hown1 hgr1 hv1; have HG3 := Lib.hid hG3; clear hown1 hgr1 hv1 hG3 c1 c2)
        refine upon_mul _ _ _ _ ?_
        intro r n2 hr
        have hrv : r = fmul T z1 := by
          have h1 := HMm.out
          obtain ⟨g1, g2, g3⟩ := uSc_fin (mm := mm) (by omega) (by omega) T HT.out li q
          rw [← HZ1.out] at g1 g3
          have h2 := hr.1
          rw [show cn .f64 T = T from cn_of_not (k := .f64) (fin_nan g2), show cn .f64 z1 = z1 from cn_of_not (k := .f64) (fin_nan g3)] at h2
          exact cn_only' h2 (fin_nan g1)
        have HRv := Lib.hid hrv
        clear hrv hr
        have HG4 := Lib.hid (HG3.out.below (below_drewN (Below.refl _ _) n2)).symm
        generalize (w3.setCell ⟨w.heap.size, 2, none⟩ (.slice (some ⟨q1, 0, none⟩) (q + 1) cp1)).drewN n2 = W5 at HG4 ⊢
        clear HG3 d1 f1 d2
        have HO2 := Lib.hid (show W5.ownsRow (w.heap.size + 2) 53 1 s2 q (nums (lwS T li q)) by have := HG4.out.o1; rwa [HLw.out] at this)
        go_wp2_with (at_builtin; refine wpList_append_stays _ rfl (.tmp 59) (.tmp 65) 25 rfl (w.heap.size + 2) 53 i0 (.complex .f64 0 0) 16 Try.underlying25 hi hz0 hz1 hz2 rfl s2 q (nums (lwS T li q)) rfl (HO2.out.alloc _) ⟨W5.heap.size, 0, none⟩ 1 1 [.complex .f64 r 0] rfl rfl (cell_one_new _ _ _) (by intro u hu; simp at hu; subst hu; rfl) H63.out HBy.out (HG4.out.szo _) ?_; intro v2 w6 hown2 hgr2 hv2; obtain ⟨q2, cp2, e2, -, -⟩ := hown2.form (Nat.succ_pos q); subst e2; obtain ⟨d3, d4, f3, hG6⟩ := HG4.out.app (z := (r, 0)) HLw.out hown2 hgr2 hv2; have HG6 := Lib.hid hG6.symm; clear hown2 hgr2 hv2 hG6)
        go_wp2
        go_roundw
        case rel =>
          refine ⟨q + 1, .slice (some ⟨q1, 0, none⟩) (q + 1) cp1, .slice (some ⟨q2, 0, none⟩) (q + 1) cp2, hlt, by go_num, ?_⟩
          have e1 : lmS li (q + 1) = lmS li q ++ [(z1, 0)] := by
            rw [lmS_succ]
            obtain ⟨a, -, -, g⟩ := zSc_ex li q
            rw [show zSc li q = (z1, 0) from Prod.ext HZ1.out.symm g]
          have e2 : lwS T li (q + 1) = lwS T li q ++ [(r, 0)] := by
            rw [lwS_succ]
            rw [show uSc T li q = (r, 0) from by unfold uSc; rw [HRv.out, HZ1.out]]
          rw [e1, e2]
          exact HG6.out
        case measure => simp [intOf]; omega
    · have e : M = q := by omega
      subst e
      obtain ⟨R, f1, f2, g1, g2, la, lb, K', x, y, hla, hlb, hK9, hxy, hA, hB, hCa, hCb, hE⟩ := scal_both (li := li) HM.out hN3 (mm := mm) (by have := HMm.out; omega) (by have := HMm.out; omega) T HT.out
      have hlm : (lmS li M).length = M := by simp [lmS]
      have hlw : (lwS T li M).length = M := by simp [lwS]
      have o1 := HG.out.o1
      have o2 := HG.out.o2
      rw [hlm] at o1
      rw [hlw] at o2
      obtain ⟨A0, c0, rfl, r1, q1, -⟩ := own_reads o1
      obtain ⟨B0, d0, rfl, r2, q2, -⟩ := own_reads o2
      have HA := Lib.hid (fun V => hA A0 c0 V q1)
      have HB := Lib.hid (fun V => hB B0 d0 V q2)
      have HCa := Lib.hid (fun V => hCa A0 c0 V q1)
      have HCb := Lib.hid (fun V => hCb B0 d0 V q2)
      have HE := Lib.hid hE
      have K0 := Lib.hid (Kp.mk (w := w) HG.out.bel (rows := [(w.heap.size, .cells #[.int .i64 (N : Nat), .int .i64 (N : Nat), .slice A0 M c0] 28), (w.heap.size + 1, .cells #[.int .i64 (N : Nat), .int .i64 (N : Nat), .slice B0 M d0] 28)]) (rds := [(A0, lmS li M), (B0, lwS T li M)]) (by
        intro p hp; simp at hp; rcases hp with rfl | rfl
        · exact HG.out.x1
        · exact HG.out.x2) (by
        intro p hp; simp at hp; rcases hp with rfl | rfl
        · exact r1
        · exact r2))
      obtain ⟨bx0, bx1, bx2, -⟩ := box3 HG.out.x1
      clear hA hB hCa hCb hE hlm hlw o1 o2 r1 r2 q1 q2 c1 c2 HG HG0 HM HT HR HMm
      have HLa := Lib.hid hla
      have HLb := Lib.hid hlb
      clear hla hlb
      go_wp2_with fail
      refine (HA.out _ (K0.out.rd (A0, lmS li M) (by simp))).mono ?_
      rintro e W1 ⟨A1, c1, rfl, hrd, hb⟩
      have K1 := Lib.hid (((K0.out.below hb).addR hrd).new2 (.cells #[.int .i64 R, .int .i64 R, .slice A1 K' c1] 28) (.cells #[.int .i64 f1, .int .i64 f2] 43))
      obtain ⟨bx0, bx1, bx2, -⟩ := box3 (K1.out.row (w.heap.size + 1, .cells #[.int .i64 (N : Nat), .int .i64 (N : Nat), .slice B0 M d0] 28) (by simp))
      clear hrd hb K0 HA
      go_wp2_with fail
      refine (HB.out _ (K1.out.rd (B0, lwS T li M) (by simp))).mono ?_
      rintro e W2 ⟨A2, c2, rfl, hrd, hb⟩
      have K2 := Lib.hid (((K1.out.below hb).addR hrd).new2 (.cells #[.int .i64 R, .int .i64 R, .slice A2 K' c2] 28) (.cells #[.int .i64 f1, .int .i64 f2] 43))
      obtain ⟨bx0, bx1, bx2, -⟩ := box3 (K2.out.row (w.heap.size, .cells #[.int .i64 (N : Nat), .int .i64 (N : Nat), .slice A0 M c0] 28) (by simp))
      clear hrd hb K1 HB
      go_wp2_with fail
      refine (HCa.out _ (K2.out.rd (A0, lmS li M) (by simp))).mono ?_
      rintro e W3 ⟨rfl, hb⟩
      have K3 := Lib.hid ((K2.out.below hb).new (.cells #[.int .i64 g1, .int .i64 g2] 43))
      obtain ⟨bx0, bx1, bx2, -⟩ := box3 (K3.out.row (w.heap.size + 1, .cells #[.int .i64 (N : Nat), .int .i64 (N : Nat), .slice B0 M d0] 28) (by simp))
      clear hb K2 HCa
      go_wp2_with fail
      refine (HCb.out _ (K3.out.rd (B0, lwS T li M) (by simp))).mono ?_
      rintro e W4 ⟨rfl, hb⟩
      have K4 := Lib.hid ((K3.out.below hb).new (.cells #[.int .i64 g1, .int .i64 g2] 43))
      clear hb K3 HCb bx0 bx1 bx2
      go_upto_region 17 with fail
      generalize W4.alloc (.cells #[.int .i64 g1, .int .i64 g2] 43) = WX at K4 ⊢
      obtain ⟨-, -, a2, -⟩ := box3 (K4.out.row (W1.heap.size, .cells #[.int .i64 R, .int .i64 R, .slice A1 K' c1] 28) (by simp))
      obtain ⟨-, -, b2, -⟩ := box3 (K4.out.row (W2.heap.size, .cells #[.int .i64 R, .int .i64 R, .slice A2 K' c2] 28) (by simp))
      obtain ⟨p0, p1, -⟩ := row2 (K4.out.row (W1.heap.size + 1, .cells #[.int .i64 f1, .int .i64 f2] 43) (by simp))
      obtain ⟨r0, r1, -⟩ := row2 (K4.out.row (W2.heap.size + 1, .cells #[.int .i64 f1, .int .i64 f2] 43) (by simp))
      obtain ⟨s0, s1, -⟩ := row2 (K4.out.row (W3.heap.size, .cells #[.int .i64 g1, .int .i64 g2] 43) (by simp))
      obtain ⟨t0, t1, -⟩ := row2 (K4.out.row (W4.heap.size, .cells #[.int .i64 g1, .int .i64 g2] 43) (by simp))
      go_wp2_with fail
      refine (awake12_c _).mono ?_
      rintro e V3 ⟨rfl, hb⟩
      have K5 := Lib.hid (K4.out.below hb)
      clear hb K4 a2 b2 p0 p1 r0 r1 s0 s1 t0 t1 hxy
      clear hm bx0 bx1 bx2
      go_wp2
      go_loopw [20] (fun i wr => ∃ j : Nat, j ≤ K' ∧ i = .int .i64 (j : Nat) ∧ Below V3.heap.size V3 wr) (fun i _ => K' - (intOf i).toNat)
      case atStart => exact ⟨0, Nat.zero_le _, rfl, Below.refl _ _⟩
      case round =>
        rename World => w0
        obtain ⟨j, hj, rfl, hb⟩ := hrel
        have K6 := Lib.hid (K5.out.below hb)
        have HB6 := Lib.hid hb
        have hjb : (j : Int) + 1 ≤ 10 := by omega
        obtain ⟨-, -, a2, -⟩ := box3 (K6.out.row (W1.heap.size, .cells #[.int .i64 R, .int .i64 R, .slice A1 K' c1] 28) (by simp))
        obtain ⟨-, -, b2, -⟩ := box3 (K6.out.row (W2.heap.size, .cells #[.int .i64 R, .int .i64 R, .slice A2 K' c2] 28) (by simp))
        have ra := K6.out.rd (A1, la) (by simp)
        have rb := K6.out.rd (A2, lb) (by simp)
        clear hb
        by_cases hlt3 : j < K'
        · have hji : (j : Int) < (K' : Int) := Int.ofNat_lt.2 hlt3
          obtain ⟨u, hu⟩ : ∃ u, la[j]? = some u := ⟨la[j]'(by rw [HLa.out]; exact hlt3), List.getElem?_eq_getElem _⟩
          obtain ⟨v, hv⟩ : ∃ v, lb[j]? = some v := ⟨lb[j]'(by rw [HLb.out]; exact hlt3), List.getElem?_eq_getElem _⟩
          obtain ⟨e1, e2, f1', f2', f3, f4⟩ := HE.out j u v hu hv
          obtain ⟨aa, rfl, haa, ca⟩ := ra.at_ (show (nums la)[j]? = some (.complex .f64 u.1 u.2) by simp [nums, hu])
          obtain ⟨ab, rfl, hab, cb⟩ := rb.at_ (show (nums lb)[j]? = some (.complex .f64 v.1 v.2) by simp [nums, hv])
          have m1 : ∀ w, (binOp .mul 31 (.float .f64 T) (.float .f64 v.1)).run Try.prog w = .ok (.float .f64 (fmul T v.1)) w := fun w => run_float_arith (P := Try.prog) w .mul 31 .f64 T v.1 _ (bits_of_fin f3)
          have m2 : ∀ w, (binOp .mul 31 (.float .f64 T) (.float .f64 v.2)).run Try.prog w = .ok (.float .f64 (fmul T v.2)) w := fun w => run_float_arith (P := Try.prog) w .mul 31 .f64 T v.2 _ (bits_of_fin f4)
          have ca' : ∀ D, (w0.drewN D).cell? (aa.add j) = some (.complex .f64 u.1 u.2) := fun _ => ca
          have cb' : ∀ D, (w0.drewN D).cell? (ab.add j) = some (.complex .f64 v.1 v.2) := fun _ => cb
          have a2' : ∀ D, (w0.drewN D).cell? ⟨W1.heap.size, 2, none⟩ = some (.slice (some aa) K' c1) := fun _ => a2
          have b2' : ∀ D, (w0.drewN D).cell? ⟨W2.heap.size, 2, none⟩ = some (.slice (some ab) K' c2) := fun _ => b2
          clear hu hv f1' f2' f3 f4 haa hab ra rb
          go_wp2
          go_quiet (fail)
          all_goals
            go_wp2
            go_roundw
            case rel => exact ⟨j + 1, hlt3, by go_num, below_drewN HB6.out _⟩
            case measure => simp [intOf]; omega
        · have e : K' = j := by omega
          subst e
          go_wp2
          go_ret
          exact ⟨rfl, K6.out.bel⟩
end Go.Proofs.Ytajdfbjjgjpicaa
