/- Layer 9: rows in another order: the walk of LowerTurned. -/
import Derived.Test.YtibjkmjccelcaaaTuE
import Derived.Test.YtibjkmjccelcaaaRC3
import Derived.Test.YtibjkmjccelcaaaArg
import Derived.Deep.DeepCutAuto
import Derived.Deep.CutBlock
import Derived.StillTailTactics
import Derived.BigQuiet
namespace Go.Proofs.Ytibjkmjccelcaaa
open Go.RowKit Fl Ieee
set_option maxRecDepth 20000
attribute [local go_sem] run_store_float run_store_complex
/-! ### The rows in another order, as a list -/
def tuL (L : List C) (N : Nat) (t : Nat → Nat) : Nat → List C
  | 0 => []
  | k + 1 => tuL L N t k ++ (L.drop (t k * N)).take N
section
variable {L : List C} {N : Nat} {t : Nat → Nat}
theorem tuL_row (hL : L.length = N * N) (ht : ∀ i, i < N → t i < N) {k : Nat} (hk : k < N) : ((L.drop (t k * N)).take N).length = N := by
  have h1 := ht k hk
  have h2 : (t k + 1) * N ≤ N * N := Nat.mul_le_mul_right _ h1
  rw [Nat.add_mul, Nat.one_mul] at h2
  rw [List.length_take, List.length_drop]; omega
theorem tuL_len (hL : L.length = N * N) (ht : ∀ i, i < N → t i < N) : ∀ k, k ≤ N → (tuL L N t k).length = k * N
  | 0, _ => by simp [tuL]
  | k + 1, hk => by
    unfold tuL
    rw [List.length_append, tuL_len hL ht k (by omega), tuL_row hL ht hk, Nat.add_mul, Nat.one_mul]
theorem tuL_at (hL : L.length = N * N) (ht : ∀ i, i < N → t i < N) {j : Nat} (hj : j < N) : ∀ k, k ≤ N → ∀ i, i < k → (tuL L N t k)[i * N + j]? = L[t i * N + j]?
  | 0, _, i, hi => by omega
  | k + 1, hk, i, hi => by
    unfold tuL
    by_cases e : i < k
    · have h2 : (i + 1) * N ≤ k * N := Nat.mul_le_mul_right _ e
      rw [Nat.add_mul, Nat.one_mul] at h2
      rw [List.getElem?_append_left (by rw [tuL_len hL ht k (by omega)]; omega)]
      exact tuL_at hL ht hj k (by omega) i e
    · have e2 : i = k := by omega
      subst e2
      rw [List.getElem?_append_right (by rw [tuL_len hL ht i (by omega)]; omega), tuL_len hL ht i (by omega), Nat.add_sub_cancel_left, List.getElem?_take_of_lt hj, List.getElem?_drop]
theorem tuL_mem : ∀ k, ∀ z ∈ tuL L N t k, z ∈ L
  | 0, z, h => by cases h
  | k + 1, z, h => by
    unfold tuL at h
    rcases List.mem_append.1 h with h | h
    · exact tuL_mem k z h
    · exact List.mem_of_mem_drop (List.mem_of_mem_take h)
theorem tuL_mat (hL : L.length = N * N) (ht : ∀ i, i < N → t i < N) {i j : Nat} (hi : i < N) (hj : j < N) : matE (tuL L N t N) N i j = matE L N (t i) j := by
  unfold matE
  rw [List.getD_eq_getElem?_getD, List.getD_eq_getElem?_getD, tuL_at hL ht hj N (Nat.le_refl _) i hi]
/-- A permutation, as it lies. -/
structure TuT (n : Nat) (t : Nat → Nat) (W : World) (p : Nat) : Prop where
  lt : ∀ i, i < n → t i < n
  inj : ∀ i j, i < n → j < n → t i = t j → i = j
  onto : ∀ j, j < n → ∃ i, i < n ∧ t i = j
  row : rowGe W p 3 n (fun a => .int .i64 (t a : Nat))
theorem TuT.drewN {n : Nat} {t : Nat → Nat} {W : World} {p : Nat} (h : TuT n t W p) (d : Nat) : TuT n t (W.drewN d) p := ⟨h.lt, h.inj, h.onto, h.row⟩
theorem TuT.drew {n : Nat} {t : Nat → Nat} {W : World} {p : Nat} (h : TuT n t W p) : TuT n t W.drew p := ⟨h.lt, h.inj, h.onto, h.row⟩
theorem TuT.swap {n : Nat} {t : Nat → Nat} {W : World} {p a b : Nat} (h : TuT n t W p) (ha : a < n) (hb : b < n) :
    TuT n (fun i => t (xch a b i)) ((W.setCell ⟨p, a, none⟩ (.int .i64 (t b : Nat))).setCell ⟨p, b, none⟩ (.int .i64 (t a : Nat))) p where
  lt i hi := h.lt _ (xch_lt ha hb hi)
  inj i j hi hj e := xch_inj (h.inj _ _ (xch_lt ha hb hi) (xch_lt ha hb hj) e)
  onto j hj := by
    obtain ⟨i, hi, e⟩ := h.onto j hj
    exact ⟨xch a b i, xch_lt ha hb hi, by show t (xch a b (xch a b i)) = j; rw [xch_xch]; exact e⟩
  row := ((h.row.set a _).set b _).congr fun i hi => by
    unfold xch
    by_cases e1 : i = b
    · subst e1
      rw [if_pos rfl]
      by_cases e2 : i = a
      · subst e2; rw [if_pos rfl]
      · rw [if_neg e2, if_pos rfl]
    · rw [if_neg e1]
      by_cases e2 : i = a
      · subst e2; rw [if_pos rfl, if_pos rfl]
      · rw [if_neg e2, if_neg e2, if_neg e1]
/-- What the statement asks, of the plain elimination. -/
structure Turned (N : Nat) (L : List C) (t : Nat → Nat) : Prop where
  len : (tuL L N t N).length = N * N
  ok : ofF N N (tuL L N t N) = (0, 0)
  fin : finTo (ofS N L).E N
  fin' : finTo (ofS N (tuL L N t N)).E N
  low : entries N (lowE (ofS N (tuL L N t N))) (N * N) = entries N (lowE (ofS N L)) (N * N)
  upp : entries N (uppE (ofS N (tuL L N t N))) (N * N) = entries N (uppE (ofS N L)) (N * N)
  ord : ∀ i, i < N → t ((ofS N (tuL L N t N)).o i) = (ofS N L).o i
  olt : ∀ i, i < N → (ofS N (tuL L N t N)).o i < N
  sg : (ofS N L).s = par (ordL (ofS N L).o N)
  sg' : (ofS N (tuL L N t N)).s = par (ordL (ofS N (tuL L N t N)).o N)
theorem entries_congr9 {N : Nat} {E F : Nat → Nat → C} (h : ∀ i j, i < N → j < N → E i j = F i j) : entries N E (N * N) = entries N F (N * N) := by
  unfold entries
  refine List.map_congr_left fun q hq => ?_
  have hq := List.mem_range.1 hq
  rcases Nat.eq_zero_or_pos N with h0 | h0
  · subst h0; omega
  · exact h _ _ (Nat.div_lt_of_lt_mul hq) (Nat.mod_lt _ h0)
theorem turned (h64 : N ≤ 64) (hL : L.length = N * N) (h0 : (ofF N N L).1 = 0) (hnt : NoTies N (S0 L N) N) (lt : ∀ i, i < N → t i < N) (inj : ∀ i j, i < N → j < N → t i = t j → i = j) (onto : ∀ j, j < N → ∃ i, i < N ∧ t i = j) : Turned N L t := by
  obtain ⟨hf, -, hr0⟩ := of_fin h64 hL h0
  have hl2 := tuL_len hL lt N (Nat.le_refl _)
  have hf2 : ∀ z ∈ tuL L N t N, pFinite z = true := fun z hz => hf z (tuL_mem N z hz)
  have hst : TuR N 0 t t (S0 L N) (S0 (tuL L N t N) N) :=
    { top := fun i j hi => by omega
      topo := fun i hi => by omega
      lo := fun i _ hi => ⟨Nat.zero_le _, lt i hi⟩
      inj := fun i j _ hi _ hj e => inj i j hi hj e
      sur := fun i _ hi => by obtain ⟨j, hj, e⟩ := onto i hi; exact ⟨j, Nat.zero_le _, hj, e⟩
      row := fun i j _ hi hj => tuL_mat hL lt hi hj
      ord := fun i _ _ => rfl }
  obtain ⟨hz, t', hT⟩ := tu_run hst (matE_fin hL hf) hr0 hnt N (Nat.le_refl _)
  have hp : Perm N (S0 L N).o := ⟨fun _ h => h, fun _ _ _ _ e => e⟩
  have hb2 : ¬ badAt (tuL L N t N) < (tuL L N t N).length := fun h => by
    obtain ⟨z, hz⟩ := some_of_lt h
    have h1 := hf2 z (List.mem_of_getElem? hz)
    have h2 := List.findIdx_getElem (w := h)
    rw [List.getElem?_eq_getElem h] at hz
    have h3 := Option.some.inj hz
    unfold badAt at h3
    rw [h3, h1] at h2
    cases h2
  have eS : ofS N L = (elRun N (S0 L N) N).2 := by unfold ofS; simp only [Int.toNat_natCast]
  have eS' : ofS N (tuL L N t N) = (elRun N (S0 (tuL L N t N) N) N).2 := by unfold ofS; simp only [Int.toNat_natCast]
  refine ⟨hl2, ?_, ?_, ?_, ?_, ?_, ?_, ?_, ?_, ?_⟩
  · rw [ofF_sq h64 hl2, if_neg hb2]; exact elRun_zero N hz
  · rw [eS]; exact elRun_fin (matE_fin hL hf) N (Nat.le_refl _)
  · rw [eS']; exact elRun_fin (matE_fin hl2 hf2) N (Nat.le_refl _)
  · rw [eS, eS']
    refine entries_congr9 fun i j hi hj => ?_
    unfold lowE
    rw [hT.top i j hi hj]
  · rw [eS, eS']
    refine entries_congr9 fun i j hi hj => ?_
    unfold uppE
    rw [hT.top i j hi hj]
  · rw [eS, eS']; exact fun i hi => hT.topo i hi
  · rw [eS']; exact (run_perm (S := S0 (tuL L N t N) N) ⟨fun _ h => h, fun _ _ _ _ e => e⟩ N (Nat.le_refl _)).1
  · rw [eS]; exact run_sign (S := S0 L N) hp (par_id N).symm N (Nat.le_refl _)
  · rw [eS']; exact run_sign (S := S0 (tuL L N t N) N) ⟨fun _ h => h, fun _ _ _ _ e => e⟩ (par_id N).symm N (Nat.le_refl _)
end
theorem rHas.ties {W : World} {B b n : Nat} {S : El} {ti : Bool} (h : rHas W B b n S ti) : W.cell? ⟨b, 4, none⟩ = some (.bool ti) := by
  rcases h.2 with ⟨-, h⟩ | ⟨-, q, p, qc, pc, g, c, h⟩
  · exact cell_of_row _ _ _ _ _ _ h
  · exact cell_of_row _ _ _ _ _ _ h.box
theorem retR_ok {n : Nat} {f : Int × Int} {S0' S : El} {w w' : World} {e : Ending} (h : RetROf f n S0' S w e w') (hf : f = (0, 0)) : ∃ b ti, e = .returned (.tuple #[.pointer (some ⟨b, 0, none⟩), .agg #[.int .i64 0, .int .i64 0]]) ∧ rHas w' w.heap.size b n S ti ∧ Below w.heap.size w w' ∧ (ti = false → NoTies n S0' n) := by
  subst hf
  obtain ⟨v, rfl, hb, h1, -⟩ := h
  obtain ⟨-, b, ti, rfl, h9, ht⟩ := h1 rfl
  exact ⟨b, ti, rfl, h9, hb, ht⟩
theorem retR_bad {n : Nat} {f : Int × Int} {S0' S : El} {w w' : World} {e : Ending} (h : RetROf f n S0' S w e w') (hf : f.1 ≠ 0) : e = .returned (.tuple #[.pointer none, .agg #[.int .i64 f.1, .int .i64 f.2]]) ∧ Below w.heap.size w w' := by
  obtain ⟨v, rfl, hb, -, h1⟩ := h
  rw [h1 hf]
  exact ⟨rfl, hb⟩
theorem quiet_samT {P : Program} {f : FuncId} {args : Array Value} {w : World} {n : Nat} {v : Value}
    (h : Calls P f args (w.drewN n) fun e w' => e = .returned v ∧ w.drewN n = w') :
    Calls P f args (w.drewN n) fun e w'' => e = .returned v ∧ ∃ m, w'' = w.drewN m :=
  h.mono fun _ _ ⟨he, hm⟩ => ⟨he, n, hm.symm⟩
theorem fault_row (W : World) : rowGe (W.alloc (.cells #[.int .i64 0, .int .i64 0] 31)) W.heap.size 31 2 (fun _ => .int .i64 0) :=
  ⟨_, heap_alloc_new _ _, Nat.le_refl _, fun i hi => by
    match i, hi with
    | 0, _ => rfl
    | 1, _ => rfl⟩
theorem mk_rowI9 (W : World) (n : Nat) : rowGe (W.alloc (.cells (madeCells #[.int .i64 0] n) 3)) W.heap.size 3 n (fun _ => .int .i64 0) := by
  obtain ⟨c, h1, h2, h3⟩ := World.rowIs_made W (.int .i64 0) n 3
  exact ⟨c, h1, by omega, h3⟩
/-- What stands: the matrix in its box, the fault's box. -/
structure TuB (w W : World) (b0 bf N M : Nat) (A1 : Option Addr) (c1 : Nat) (L : List C) : Prop where
  bel : Below w.heap.size w W
  box : W.heap[b0]? = some (.cells #[.int .i64 (N : Nat), .int .i64 (N : Nat), .slice A1 M c1] 26)
  fbx : rowGe W bf 31 2 (fun _ => .int .i64 0)
  rd : Reads W b0 A1 (nums L)
  lo : w.heap.size ≤ b0
  lt : b0 < bf
theorem TuB.below {w W V : World} {b0 bf N M : Nat} {A1 : Option Addr} {c1 : Nat} {L : List C} (h : TuB w W b0 bf N M A1 c1 L) {B : Nat} (hb : Below B W V) (hB : bf < B) : TuB w V b0 bf N M A1 c1 L :=
  have h1 := h.lt
  have h2 := h.lo
  ⟨h.bel.trans (hb.mono (by omega)), (hb.block b0 (by omega)).trans h.box, h.fbx.below hb hB, h.rd.below (hb.mono (by omega)), h.lo, h.lt⟩
theorem TuB.below' {w W V : World} {b0 bf N M : Nat} {A1 : Option Addr} {c1 : Nat} {L : List C} (h : TuB w W b0 bf N M A1 c1 L) (hb : Below W.heap.size W V) : TuB w V b0 bf N M A1 c1 L :=
  h.below hb h.fbx.lt
/-- The fault is written over. -/
theorem TuB.fault {w W : World} {b0 bf N M : Nat} {A1 : Option Addr} {c1 : Nat} {L : List C} (h : TuB w W b0 bf N M A1 c1 L) : TuB w ((W.setCell ⟨bf, 0, none⟩ (.int .i64 0)).setCell ⟨bf, 1, none⟩ (.int .i64 0)) b0 bf N M A1 c1 L :=
  have h1 := h.lt
  have h2 := h.lo
  { bel := (h.bel.setCell (by show w.heap.size ≤ bf; omega) _).setCell (by show w.heap.size ≤ bf; omega) _
    box := by
      rw [Below.heap_setCell _ _ _ _ (show b0 ≠ bf by omega), Below.heap_setCell _ _ _ _ (show b0 ≠ bf by omega)]; exact h.box
    fbx := ((h.fbx.set 0 _).set 1 _).congr fun i _ => by
      by_cases e1 : i = 1
      · rw [if_pos e1]
      · rw [if_neg e1]
        by_cases e0 : i = 0
        · rw [if_pos e0]
        · rw [if_neg e0]
    rd := h.rd.keep fun p hp => by
      rw [World.cell?_setCell_far _ _ _ _ (show bf ≠ p.block by omega), World.cell?_setCell_far _ _ _ _ (show bf ≠ p.block by omega)]
    lo := h.lo
    lt := h.lt }
/-- What stands behind both eliminations. -/
structure TuK (w W : World) (b0 g N M : Nat) (A1 : Option Addr) (c1 : Nat) (t : Nat → Nat) (B1 b1 B2 b2 : Nat) (S S' : El) : Prop where
  bel : Below w.heap.size w W
  box : W.heap[b0]? = some (.cells #[.int .i64 (N : Nat), .int .i64 (N : Nat), .slice A1 M c1] 26)
  at_ : rowGe W g 3 N (fun a => .int .i64 (t a : Nat))
  x : Has9 W B1 b1 N S
  y : Has9 W B2 b2 N S'
theorem TuK.below {w W V : World} {b0 g N M : Nat} {A1 : Option Addr} {c1 : Nat} {t : Nat → Nat} {B1 b1 B2 b2 : Nat} {S S' : El} (h : TuK w W b0 g N M A1 c1 t B1 b1 B2 b2 S S') (hb : Below W.heap.size W V) : TuK w V b0 g N M A1 c1 t B1 b1 B2 b2 S S' :=
  ⟨h.bel.trans (hb.mono h.bel.size), row_keep hb h.box, h.at_.below hb h.at_.lt, h.x.below hb, h.y.below hb⟩
set_option linter.unusedSimpArgs false in
set_option pp.deepTerms true in
set_option maxHeartbeats 8000000 in
theorem Turned9 (n : Int) (A : Option Addr) (l : List C) (cap : Nat) (Bo : Option Addr) (lo : List Int) (capo : Nat) (w : World) (hr : Reads w w.heap.size A (zcells l)) (hlt : ltCs l) (hro : Reads w w.heap.size Bo (zints lo)) :
    Calls Try.prog 3 #[.int .i64 n, .slice A l.length cap, .slice Bo lo.length capo] w fun e w' => e = .returned (.bool true) ∧ Below w.heap.size w w' := by
  have HSq := Lib.hid (Square_c n A l cap w hr)
  obtain ⟨N, hN⟩ : ∃ N, N = sqN n := ⟨_, rfl⟩
  have hN64 : N ≤ 64 := by rw [hN]; exact sqN_le n
  obtain ⟨L, hL⟩ : ∃ L, L = sqL l (N * N) := ⟨_, rfl⟩
  have hLl' : L.length = N * N := by rw [hL]; exact sqL_len _ _
  have hLt : ltCs L := by rw [hL]; exact sqL_lt hlt _
  rw [← hN, ← hL] at HSq
  obtain ⟨M, hM⟩ : ∃ M, M = N * N := ⟨_, rfl⟩
  have hLl : L.length = M := by rw [hLl', hM]
  have hM4 : M ≤ 4096 := by rw [hM]; exact prod_small hN64 hN64
  obtain ⟨f1, f2, hf⟩ : ∃ f1 f2, ofF N N L = (f1, f2) := ⟨_, _, rfl⟩
  have HRf := Lib.hid (fun (B : Option Addr) (c : Nat) (V : World) (h : Reads V V.heap.size B (nums L)) => rOf_c N N B L c V h hLt)
  rw [hLl, Int.toNat_natCast, hf] at HRf
  have HLl := Lib.hid hLl
  have HLl' := Lib.hid hLl'
  have HM := Lib.hid hM
  have HF := Lib.hid hf
  have HLt := Lib.hid hLt
  have HRo := Lib.hid hro
  have hmk := run_make_row' (P := Try.prog) 23 3 (.int .i64 0) 8 Try.underlying23 infoInt9 rfl .i64 .i64 N (by omega) (by omega)
  obtain ⟨i0, hi0, hz0, hz1, hz2⟩ := info_parts infoNum
  clear hr hlt hro hN hL hLl hLl' hLt hM hf
  go_enter Try.func3, Try.ntmps3
  go_wp2_with fail
  refine HSq.out.mono ?_
  rintro e W1 hr
  obtain ⟨A1, c1, rfl, hrd, hMc, hb⟩ := hr.liesM HLl.out
  have hb1 := below_new W1 (.cells #[.int .i64 (N : Nat), .int .i64 (N : Nat), .slice A1 M c1] 26)
  have B1 := Lib.hid (hb.trans (hb1.mono hb.size))
  have HRd := Lib.hid (hrd.below hb1)
  have HRd' := Lib.hid ((hrd.below hb1).more hb1.size)
  have HRow := Lib.hid (heap_alloc_new W1 (.cells #[.int .i64 (N : Nat), .int .i64 (N : Nat), .slice A1 M c1] 26))
  have HS1 := Lib.hid hb.size
  have HMc := Lib.hid hMc
  clear hr hrd hb hb1 hMc HSq
  go_wp2_with fail
  refine (HRf.out _ _ _ HRd'.out).mono ?_
  rintro e W2 hr
  by_cases h0 : f1 = 0
  case neg =>
    obtain ⟨rfl, hb⟩ := retR_bad hr h0
    have hne : (f1 == 0) = false := by simpa using h0
    have HFr := Lib.hid (heap_alloc_new W2 (.cells #[.int .i64 f1, .int .i64 f2] 31))
    have hb2 := hb.trans ((below_new W2 (.cells #[.int .i64 f1, .int .i64 f2] 31)).mono hb.size)
    have B2 := Lib.hid (B1.out.trans (hb2.mono B1.out.size))
    obtain ⟨p0, p1, -⟩ := row2 HFr.out
    clear hr hb hb2 HRf HRd HRd' HRow B1 hmk
    go_wp2_with fail
    refine (awake9_c _).mono ?_
    rintro e W3 ⟨rfl, hb⟩
    have B3 := Lib.hid (B2.out.trans (hb.mono B2.out.size))
    clear hb
    go_wp2
    go_ret
    exact ⟨rfl, B3.out⟩
  subst h0
  have hf2 : f2 = 0 := by
    have h1 := (of_fin (n := N) hN64 HLl'.out (by rw [HF.out])).2.1
    rw [HF.out] at h1
    exact (Prod.mk.inj h1).2
  subst hf2
  obtain ⟨b, ti, rfl, h9, hb, hnt⟩ := retR_ok hr rfl
  have hbn := below_new W2 (.cells #[.int .i64 0, .int .i64 0] 31)
  have hb2 := hb.trans (hbn.mono hb.size)
  have K := Lib.hid (show TuB w (W2.alloc (.cells #[.int .i64 0, .int .i64 0] 31)) W1.heap.size W2.heap.size N M A1 c1 L from
    { bel := B1.out.trans (hb2.mono B1.out.size)
      box := row_keep hb2 HRow.out
      fbx := fault_row W2
      rd := HRd.out.below (hb2.mono (by simp))
      lo := HS1.out
      lt := Nat.lt_of_lt_of_le (by simp) hb.size })
  have ht := (h9.below hbn).ties
  have p0 := K.out.fbx.cell (i := 0) (by omega)
  have p1 := K.out.fbx.cell (i := 1) (by omega)
  obtain ⟨W3, hW3⟩ : ∃ W3, W3 = W2.alloc (.cells #[.int .i64 0, .int .i64 0] 31) := ⟨_, rfl⟩
  have HNt := Lib.hid hnt
  rw [← hW3] at K ht p0 p1
  obtain ⟨bf, hbf⟩ : ∃ bf, bf = W2.heap.size := ⟨_, rfl⟩
  obtain ⟨b0, hb0⟩ : ∃ b0, b0 = W1.heap.size := ⟨_, rfl⟩
  rw [← hbf] at K p0 p1
  rw [← hb0] at K
  have HW3 := Lib.hid hW3
  have HBf := Lib.hid hbf
  have HB0 := Lib.hid hb0
  clear hr hb hbn hb2 h9 hnt HRf HRd HRd' HRow hW3 hbf hb0
  go_upto_region 3 with fail
  rw [← HW3.out, ← HBf.out, ← HB0.out]
  have HB3 := Lib.hid (show bf < W3.heap.size from K.out.fbx.lt)
  clear HBf HB0 HW3 HS1 B1
  cases ti
  case true =>
    clear HNt
    go_wp2_with fail
    refine (awake9_c _).mono ?_
    rintro e W4 ⟨rfl, hb⟩
    have B4 := Lib.hid (K.out.bel.trans (hb.mono K.out.bel.size))
    clear hb
    go_wp2
    go_ret
    exact ⟨rfl, B4.out⟩
  have HNo := Lib.hid (HNt.out rfl)
  clear HNt
  obtain ⟨x0, x1, x2, -⟩ := box3 K.out.box
  go_wp2
  go_loopw [11] (fun iv wr => ∃ j : Nat, j ≤ N ∧ iv = .int .i64 (j : Nat) ∧ Below W3.heap.size W3 wr ∧ rowGe wr W3.heap.size 3 N (fun a => if a < j then .int .i64 (a : Nat) else .int .i64 0)) (fun iv _ => N - (intOf iv).toNat)
  case atStart => exact ⟨0, Nat.zero_le _, rfl, below_new _ _, (mk_rowI9 W3 N).congr fun a _ => by rw [if_neg (by omega)]⟩
  case round =>
    obtain ⟨j, hj, rfl, hb, hrow⟩ := hrel
    have HB := Lib.hid hb
    have HRow := Lib.hid hrow
    have HK := Lib.hid (K.out.below' hb)
    clear hb hrow x0 x1 x2
    obtain ⟨x0, x1, x2, -⟩ := box3 HK.out.box
    by_cases hlt : j < N
    · have hji : (j : Int) < (N : Int) := Int.ofNat_lt.2 hlt
      have hjb : (j : Int) + 1 ≤ 65 := by omega
      have hf := HRow.out.frozen j
      have hc := HRow.out.cell hlt
      go_wp2
      go_roundw
      case rel =>
        refine ⟨j + 1, hlt, by go_num, HB.out.setCell (Nat.le_refl _) _, (HRow.out.set j _).congr fun a ha => ?_⟩
        by_cases e : a = j
        · subst e; rw [if_pos rfl, if_pos (by omega)]
        · rw [if_neg e]
          by_cases e2 : a < j
          · rw [if_pos e2, if_pos (by omega)]
          · rw [if_neg e2, if_neg (by omega)]
      case measure => simp [intOf]; omega
    · have e : N = j := by omega
      subst e
      have HT := Lib.hid (show TuT N id wr W3.heap.size from ⟨fun i hi => hi, fun _ _ _ _ e => e, fun r hr => ⟨r, hr, rfl⟩, HRow.out.congr fun a ha => by rw [if_pos ha]; rfl⟩)
      clear HRow
      go_upto_block 2 with fail
      go_cut [12, 13, 14] (fun _ _ _ wx => ∃ t, Below W3.heap.size W3 wx ∧ TuT N t wx W3.heap.size)
      case first =>
        clear x0 x1 x2 HK
        go_wp2_with fail
        go_loopw [12, 13, 14] (fun i _ _ wq => ∃ (j : Nat) (t : Nat → Nat), j ≤ 200 ∧ i = .int .i64 (j : Nat) ∧ Below W3.heap.size W3 wq ∧ TuT N t wq W3.heap.size) (fun i _ _ _ => 200 - (intOf i).toNat)
        case atStart => exact ⟨0, id, Nat.zero_le _, rfl, HB.out, HT.out⟩
        case round =>
          rename World => w0
          obtain ⟨j, t, hj, rfl, hb, ht⟩ := hrel
          have HBw := Lib.hid hb
          have HTw := Lib.hid ht
          have HKw := Lib.hid (K.out.below' hb)
          clear hb ht
          have hj201 : (j : Int) + 1 ≤ 201 := by omega
          obtain ⟨x0, x1, x2, -⟩ := box3 HKw.out.box
          by_cases h1 : j < lo.length
          · have h1i : (j : Int) < (lo.length : Int) := Int.ofNat_lt.2 h1
            by_cases h2 : j < 200
            · have h2i : (j : Int) < 200 := by omega
              by_cases h3 : 0 < N
              · have h3i : (0 : Int) < (N : Int) := by omega
                obtain ⟨x, hx⟩ : ∃ x, lo[j]? = some x := ⟨lo[j], List.getElem?_eq_getElem h1⟩
                have hxz : (zints lo)[j]? = some (.int .i64 x) := by unfold zints; rw [List.getElem?_map, hx]; rfl
                obtain ⟨ad, rfl, hab, hc1⟩ := (HRo.out.below (K.out.bel.trans (HBw.out.mono K.out.bel.size))).at_ hxz
                obtain ⟨pa, hpa⟩ : ∃ pa : Nat, (pa : Int) = x % (N : Int) := ⟨(x % (N : Int)).toNat, by have := Int.emod_nonneg x (show (N : Int) ≠ 0 by omega); omega⟩
                have hpaN : pa < N := by have := Int.emod_lt_of_pos x (show (0 : Int) < N by omega); omega
                have hPk := Lib.hid (fun W => Pick_c x (N : Int) (by omega) (by omega) W)
                rw [← hpa] at hPk
                obtain ⟨pb, hpb⟩ : ∃ pb, pb = j % N := ⟨_, rfl⟩
                have hpbN : pb < N := by rw [hpb]; exact Nat.mod_lt _ (by omega)
                have hrem : IntKind.i64.wrap ((j : Int).tmod (N : Int)) = (pb : Int) := by
                  rw [hpb, Int.tmod_eq_emod_of_nonneg (by omega)]
                  rw [IntKind.wrap_i64]; omega
                have hpbI : (j : Int) % (N : Int) = (pb : Int) := by rw [hpb]; omega
                clear hx hxz hpa hpb
                have hNz : ((N : Int) == 0) = false := by simp; omega
                have hd1 : ∀ D, (w0.drewN D).cell? (ad.add j) = some (.int .i64 x) := fun D => hc1
                go_wp2_with fail
                go_quiet ((go_at_call 12; (with_reducible refine quiet_samT (hPk.out _))))
                have HT1 := Lib.hid (HTw.out.drewN nq)
                have HB1 := Lib.hid (below_drewN HBw.out nq)
                generalize w0.drewN nq = w1 at HT1 HB1 ⊢
                clear hd1 hPk hc1 hab hrem x0 x1 x2 HKw
                go_wp2_with fail
                try rw [hpbI]
                have qa := HT1.out.row.cell hpaN
                have qb := HT1.out.row.cell hpbN
                have fa := HT1.out.row.frozen pa
                have fb := HT1.out.row.frozen pb
                have hs1 : rowGe (w1.setCell ⟨W3.heap.size, pa, none⟩ (.int .i64 (t pb : Nat))) W3.heap.size 3 N (fun a => if a = pa then .int .i64 (t pb : Nat) else .int .i64 (t a : Nat)) := rowGe.set (W := w1) (f := fun a => .int .i64 (t a : Nat)) HT1.out.row pa _
                have cb2 : (w1.setCell ⟨W3.heap.size, pa, none⟩ (.int .i64 (t pb : Nat))).cell? ⟨W3.heap.size, pb, none⟩ = some (.int .i64 (t pb : Nat)) := by
                  rw [hs1.cell hpbN]
                  by_cases e : pb = pa
                  · rw [if_pos e]
                  · rw [if_neg e]
                have fb2 := hs1.frozen pb
                clear hs1
                have hpai : (pa : Int) < (N : Int) := Int.ofNat_lt.2 hpaN
                have hpbi : (pb : Int) < (N : Int) := Int.ofNat_lt.2 hpbN
                refine wp_region_K 13 (by kernel_rfl) (fun V => V = w1.drew) (by kernel_rfl) (fun hsel hcl => ?_)
                refine wpAnyK_takeFree (i := 0) (v := ?va0) rfl hsel hcl (by kernel_rfl) (by kernel_rfl) rfl (fun _ _ _ h => h) rfl rfl ?hya0 (fun hcl => ?ha0)
                case hya0 => (intro w'; go_simp; first | done | with_reducible rfl)
                simp only [Act.put, List.setIfInBounds_toArray, List.set_cons_zero, List.set_cons_succ]
                refine wpAnyK_takeFree (i := 1) (v := ?va1) rfl hsel hcl (by kernel_rfl) (by kernel_rfl) rfl (fun _ _ _ h => h) rfl rfl ?hya1 (fun hcl => ?ha1)
                case hya1 => (intro w'; go_simp; first | done | with_reducible rfl)
                simp only [Act.put, List.setIfInBounds_toArray, List.set_cons_zero, List.set_cons_succ]
                refine wpAnyK_takeFree (i := 2) (v := ?va2) rfl hsel hcl (by kernel_rfl) (by kernel_rfl) rfl (fun _ _ _ h => h) rfl rfl ?hya2 (fun hcl => ?ha2)
                case hya2 => (intro w'; go_simp; first | done | with_reducible rfl)
                simp only [Act.put, List.setIfInBounds_toArray, List.set_cons_zero, List.set_cons_succ]
                refine wpAnyK_takeFree (i := 3) (v := ?va3) rfl hsel hcl (by kernel_rfl) (by kernel_rfl) rfl (fun _ _ _ h => h) rfl rfl ?hya3 (fun hcl => ?ha3)
                case hya3 => (intro w'; go_simp; first | done | with_reducible rfl)
                simp only [Act.put, List.setIfInBounds_toArray, List.set_cons_zero, List.set_cons_succ]
                refine wpAnyK_takeFree (i := 4) (v := ?va4) rfl hsel hcl (by kernel_rfl) (by kernel_rfl) rfl (fun _ _ _ h => h) rfl rfl ?hya4 (fun hcl => ?ha4)
                case hya4 => (intro w'; go_simp; first | done | with_reducible rfl)
                simp only [Act.put, List.setIfInBounds_toArray, List.set_cons_zero, List.set_cons_succ]
                refine wpAnyK_takeFree (i := 5) (v := ?va5) rfl hsel hcl (by kernel_rfl) (by kernel_rfl) rfl (fun _ _ _ h => h) rfl rfl ?hya5 (fun hcl => ?ha5)
                case hya5 => (intro w'; go_simp; first | done | with_reducible rfl)
                simp only [Act.put, List.setIfInBounds_toArray, List.set_cons_zero, List.set_cons_succ]
                refine wpAnyK_takeFree (i := 6) (v := ?va6) rfl hsel hcl (by kernel_rfl) (by kernel_rfl) rfl (fun _ _ _ h => h) rfl rfl ?hya6 (fun hcl => ?ha6)
                case hya6 => (intro w'; go_simp; first | done | with_reducible rfl)
                simp only [Act.put, List.setIfInBounds_toArray, List.set_cons_zero, List.set_cons_succ]
                refine wpAnyK_takeNeed [] (i := 7) (v := ?va7) rfl hsel hcl (by kernel_rfl) (by kernel_rfl) rfl (by decide +kernel) (fun _ _ _ h => h) rfl rfl ?hya7 (fun hcl => ?ha7)
                case hya7 => (rintro w' rfl; go_simp; first | done | with_reducible rfl)
                simp only [Act.put, List.setIfInBounds_toArray, List.set_cons_zero, List.set_cons_succ]
                refine wpAnyK_takeFree (i := 8) (v := ?va8) rfl hsel hcl (by kernel_rfl) (by kernel_rfl) rfl (fun _ _ _ h => h) rfl rfl ?hya8 (fun hcl => ?ha8)
                case hya8 => (intro w'; go_simp; first | done | with_reducible rfl)
                simp only [Act.put, List.setIfInBounds_toArray, List.set_cons_zero, List.set_cons_succ]
                refine wpAnyK_takeFree (i := 9) (v := ?va9) rfl hsel hcl (by kernel_rfl) (by kernel_rfl) rfl (fun _ _ _ h => h) rfl rfl ?hya9 (fun hcl => ?ha9)
                case hya9 => (intro w'; go_simp; first | done | with_reducible rfl)
                simp only [Act.put, List.setIfInBounds_toArray, List.set_cons_zero, List.set_cons_succ]
                refine wpAnyK_takeFree (i := 10) (v := ?va10) rfl hsel hcl (by kernel_rfl) (by kernel_rfl) rfl (fun _ _ _ h => h) rfl rfl ?hya10 (fun hcl => ?ha10)
                case hya10 => (intro w'; go_simp; first | done | with_reducible rfl)
                simp only [Act.put, List.setIfInBounds_toArray, List.set_cons_zero, List.set_cons_succ]
                refine wpAnyK_takeNeed [] (i := 11) (v := ?va11) rfl hsel hcl (by kernel_rfl) (by kernel_rfl) rfl (by decide +kernel) (fun _ _ _ h => h) rfl rfl ?hya11 (fun hcl => ?ha11)
                case hya11 => (rintro w' rfl; go_simp; first | done | with_reducible rfl)
                simp only [Act.put, List.setIfInBounds_toArray, List.set_cons_zero, List.set_cons_succ]
                refine wpAnyK_takeFree (i := 12) (v := ?va12) rfl hsel hcl (by kernel_rfl) (by kernel_rfl) rfl (fun _ _ _ h => h) rfl rfl ?hya12 (fun hcl => ?ha12)
                case hya12 => (intro w'; go_simp; first | done | with_reducible rfl)
                simp only [Act.put, List.setIfInBounds_toArray, List.set_cons_zero, List.set_cons_succ]
                refine wpAnyK_store (st := 13) rfl (by decide +kernel) rfl ?_
                go_simp
                refine wpAny_one (i := 14) rfl (by decide +kernel) rfl ?_
                go_simp
                refine wpAny_one (i := 15) rfl (by decide +kernel) rfl ?_
                go_simp
                refine wpAny_done (by decide +kernel) ?_ _
                clear qa qb fa fb cb2 fb2 hpai hpbi
                go_wp2
                go_roundw
                case rel => exact ⟨j + 1, fun i => t (xch pa pb i), by omega, by go_num, ((HB1.out.setCell (Nat.le_refl _) _).setCell (Nat.le_refl _) _).drew, (HT1.out.swap hpaN hpbN).drew⟩
                case measure => simp [intOf]; omega
              · have h3i : ¬ (0 : Int) < (N : Int) := by omega
                go_wp2
                go_meet
                case rel => exact ⟨t, HBw.out, HTw.out⟩
            · have h2i : ¬ (j : Int) < 200 := by omega
              go_wp2
              go_meet
              case rel => exact ⟨t, HBw.out, HTw.out⟩
          · have h1i : ¬ (j : Int) < (lo.length : Int) := by omega
            go_wp2
            go_meet
            case rel => exact ⟨t, HBw.out, HTw.out⟩
      case rest =>
        rename World => wz
        obtain ⟨t, hb, ht⟩ := hcut
        have HTz := Lib.hid ht
        have HKz := Lib.hid (K.out.below' hb)
        have HTu := Lib.hid (turned hN64 HLl'.out (by rw [HF.out]) HNo.out ht.lt ht.inj ht.onto)
        have hgl : W3.heap.size < wz.heap.size := ht.row.lt
        have HGl := Lib.hid hgl
        clear hb ht hgl HT HB HK hmk x0 x1 x2 HNo K
        go_wp2
        go_loopw [15, 16] (fun s iv wr => ∃ k q : Nat, k ≤ N ∧ Hid (q = k * N) ∧ iv = .int .i64 (k : Nat) ∧ wr.ownsRow wz.heap.size 51 1 s q (nums (tuL L N t k)) ∧ Below wz.heap.size wz wr) (fun _ iv _ => N - (intOf iv).toNat)
        case atStart => exact ⟨0, 0, Nat.zero_le _, Lib.hid (by simp), rfl, by simpa [tuL, nums] using World.ownsRow_nil _ _ _ _, Below.refl _ _⟩
        case round =>
          obtain ⟨k, q, hk, hq, rfl, hown, hb⟩ := hrel
          have HQ := hq
          have HOwn := Lib.hid hown
          have HBw := Lib.hid hb
          have HKw := Lib.hid (HKz.out.below' hb)
          obtain ⟨x0, x1, x2, -⟩ := box3 HKw.out.box
          clear hq hown hb
          by_cases hlt : k < N
          · have hki : (k : Int) < (N : Int) := Int.ofNat_lt.2 hlt
            have hkb : (k : Int) + 1 ≤ 65 := by omega
            have hc := (HTz.out.row.below HBw.out HGl.out).cell hlt
            obtain ⟨ti, hti⟩ : ∃ ti, ti = t k := ⟨_, rfl⟩
            have htn : ti < N := by rw [hti]; exact HTz.out.lt k hlt
            rw [← hti] at hc
            obtain ⟨p, hp⟩ : ∃ p, p = ti * N := ⟨_, rfl⟩
            have hpM : p + N ≤ M := by
              rw [HM.out, hp]
              have h1 : (ti + 1) * N ≤ N * N := Nat.mul_le_mul_right _ htn
              rw [Nat.add_mul, Nat.one_mul] at h1; omega
            have hw1 : IntKind.i64.wrap ((ti : Int) * (N : Int)) = (p : Int) := by
              rw [hp, ← Int.natCast_mul, ← hp, IntKind.wrap_i64]; omega
            obtain ⟨pe, hpe⟩ : ∃ pe, pe = p + N := ⟨_, rfl⟩
            have hw2 : IntKind.i64.wrap (IntKind.i64.wrap ((ti : Int) + 1) * (N : Int)) = (pe : Int) := by
              rw [show IntKind.i64.wrap ((ti : Int) + 1) = (ti : Int) + 1 by rw [IntKind.wrap_i64]; omega, show ((ti : Int) + 1) * (N : Int) = (pe : Int) by rw [hpe, hp, Int.add_mul, Int.one_mul, Int.natCast_add, Int.natCast_mul], IntKind.wrap_i64]; omega
            obtain ⟨ad, hA, hab, hce⟩ := HKw.out.rd (by simp [nums, HLl.out]; omega)
            subst hA
            obtain ⟨xs, hxs⟩ : ∃ xs, xs = nums ((L.drop p).take N) := ⟨_, rfl⟩
            have HXs := Lib.hid hxs
            have HXl := Lib.hid (show xs.length = N by rw [hxs]; simp [nums, HLl.out]; omega)
            have HXc := Lib.hid (show ∀ j v, xs[j]? = some v → wr.cell? ((ad.add p).add j) = some v from fun j v hv => by
              rw [add_of_add]
              refine hce _ _ ?_
              rw [hxs] at hv
              have hjN : j < N := by
                rcases Nat.lt_or_ge j N with h | h
                · exact h
                · rw [List.getElem?_eq_none (by simp [nums]; omega)] at hv; cases hv
              simpa [nums, hjN] using hv)
            have HTi := Lib.hid hti
            have HP := Lib.hid hp
            have hMc := HMc.out
            have hpe1 : p ≤ pe := by omega
            have hpe2 : pe ≤ c1 := by omega
            have hpe3 : pe - p = N := by omega
            have HPe := Lib.hid hpe
            have hcp : ¬ (c1 = p) := by omega
            clear hab hce hxs hti hp hpe hMc hpM
            go_wp2_with fail
            go_still_tail 19, (by kernel_rfl)
            change wpList _ _ _ _ _ wr.drew
            have HOd := Lib.hid (show wr.drew.ownsRow wz.heap.size 51 1 u15 q (nums (tuL L N t k)) from HOwn.out)
            have HXd := Lib.hid (show ∀ j v, xs[j]? = some v → wr.drew.cell? ((ad.add p).add j) = some v from HXc.out)
            have HX1 := Lib.hid (show xs.length = N * 1 by rw [HXl.out, Nat.mul_one])
            have HOne := Lib.hid (show ∀ v ∈ xs, v.oneCell' = true by rw [HXs.out]; exact nums_one)
            have hq4 : q ≤ 4096 := by
              rw [HQ.out]
              exact Nat.le_trans (Nat.mul_le_mul_right _ hk) (by rw [← HM.out]; exact hM4)
            have H63 := Lib.hid (show q + N ≤ maxLen by unfold maxLen; omega)
            have HBy := Lib.hid (show (q + N) * 16 ≤ 140737488355328 by omega)
            have HSz := Lib.hid (show wz.heap.size ≤ wr.drew.heap.size from HBw.out.size)
            go_wp2_with (at_builtin; refine wpList_append_stays _ rfl (.tmp 100) (.tmp 118) 24 rfl wz.heap.size 51 i0 (.complex .f64 0 0) 16 Try.underlying24 hi0 hz0 hz1 hz2 rfl u15 q (nums (tuL L N t k)) rfl HOd.out (ad.add p) N (c1 - p) xs rfl HX1.out HXd.out HOne.out H63.out HBy.out HSz.out ?_; intro v' w4 hown1 hgr1 hv1)
            have HO1 := Lib.hid hown1
            have HB1 := Lib.hid (show Below wz.heap.size wz w4 from (HBw.out.drew).grown hgr1 HSz.out (fun j hj => (HOd.out.lt j hj).1))
            clear hown1 hgr1 hv1
            go_wp2
            go_roundw
            case rel =>
              refine ⟨k + 1, q + N, hlt, Lib.hid (by rw [HQ.out, Nat.add_mul, Nat.one_mul]), by go_num, ?_, HB1.out⟩
              have h := HO1.out
              rw [HXs.out] at h
              unfold tuL
              rw [← HTi.out, ← HP.out]
              simpa [nums] using h
            case measure => simp [intOf]; omega
          · have e : N = k := by omega
            subst e
            obtain ⟨A2, c2, hu, -, hle2, -⟩ := own_reads HOwn.out
            subst hu
            obtain ⟨L2, hL2⟩ : ∃ L2, L2 = tuL L N t N := ⟨_, rfl⟩
            have hT := HTu.out
            have hlen2 := hT.len
            have hok2 := hT.ok
            have hfin := hT.fin
            have hfin2 := hT.fin'
            have hlow := hT.low
            have hupp := hT.upp
            have hord := hT.ord
            have holt := hT.olt
            have hsg := hT.sg
            have hsg2 := hT.sg'
            rw [← hL2] at hlen2 hok2 hfin2 hlow hupp hord holt hsg2 HOwn
            have hq2 : L2.length = q := by rw [hlen2, HQ.out]
            have hqM : M = q := by rw [HQ.out, HM.out]
            subst hqM
            obtain ⟨S, hS⟩ : ∃ S, S = ofS N L := ⟨_, rfl⟩
            obtain ⟨S', hS'⟩ : ∃ S', S' = ofS N L2 := ⟨_, rfl⟩
            rw [← hS] at hfin hlow hupp hord hsg
            rw [← hS'] at hfin2 hlow hupp hord holt hsg2
            have hlt2 : ltCs L2 := fun z hz => HLt.out z (tuL_mem N z (by rw [← hL2]; exact hz))
            have HOf1 := Lib.hid (fun (V : World) (h : Reads V V.heap.size A1 (nums L)) => Of_c N N A1 L c1 V (by rw [HLl.out]; exact HMc.out) h HLt.out)
            have HOf2 := Lib.hid (fun (V : World) (h : Reads V V.heap.size A2 (nums L2)) => Of_c N N A2 L2 c2 V (by rw [hq2]; exact hle2) h hlt2)
            rw [HLl.out, Int.toNat_natCast, HF.out, ← hS] at HOf1
            rw [hq2, Int.toNat_natCast, hok2, ← hS'] at HOf2
            rw [← HM.out] at hlow hupp
            have HFin := Lib.hid hfin
            have HFin2 := Lib.hid hfin2
            have HLow := Lib.hid hlow
            have HUpp := Lib.hid hupp
            have HOrd := Lib.hid hord
            have HOlt := Lib.hid holt
            have HSg := Lib.hid hsg
            have HSg2 := Lib.hid hsg2
            have HNn := Lib.hid hN64
            have HM4 := Lib.hid hM4
            have HEl := Lib.hid (show ∀ S : El, (entries N (lowE S) M).length = M from fun S => by simp [entries])
            have HEu := Lib.hid (show ∀ S : El, (entries N (uppE S) M).length = M from fun S => by simp [entries])
            have hbl : bf < wr.heap.size := HKw.out.fbx.lt
            have HBl := Lib.hid hbl
            have HBz := Lib.hid (show bf < wz.heap.size from HKz.out.fbx.lt)
            have HGb := Lib.hid (show W3.heap.size ≠ bf from fun e => by have := HKz.out.lt; have := HGl.out; have h3 := HB3.out; omega)
            have HAt := Lib.hid (HTz.out.row.below HBw.out HGl.out)
            clear hT hlen2 hok2 hfin hfin2 hlow hupp hord holt hsg hsg2 hq2 hS hS' hlt2 hL2 hle2 HTu HTz HF HKz hbl hN64 hM4 hi0 hz0 hz1 hz2
            have hRd1 := Lib.hid (HKw.out.rd.more (Nat.le_of_lt (Nat.lt_trans HKw.out.lt HBl.out)))
            go_wp2_with fail
            refine (HOf1.out _ hRd1.out).mono ?_
            rintro e W5 hr
            obtain ⟨b1, rfl, h9, hb⟩ := hr.ok rfl
            have K5 := Lib.hid (HKw.out.below' hb)
            have HO5 := Lib.hid (own_below HOwn.out hb)
            have HA5 := Lib.hid (HAt.out.below hb HAt.out.lt)
            have H9 := Lib.hid h9
            have p0 := K5.out.fbx.cell (i := 0) (by omega)
            have p1 := K5.out.fbx.cell (i := 1) (by omega)
            have pf := K5.out.fbx.frozen
            clear hr h9 hb HOf1 hRd1 HKw HOwn HAt x0 x1 x2
            go_upto_region 21 with fail
            have K6 := Lib.hid K5.out.fault
            have HO6 := Lib.hid (ownsRow_setCell_below (ownsRow_setCell_below HO5.out (a := ⟨bf, 0, none⟩) (show bf < wz.heap.size from HBz.out) (.int .i64 0)) (a := ⟨bf, 1, none⟩) (show bf < wz.heap.size from HBz.out) (.int .i64 0))
            have HA6 := Lib.hid ((HA5.out.setOther (a := ⟨bf, 0, none⟩) HGb.out (.int .i64 0)).setOther (a := ⟨bf, 1, none⟩) HGb.out (.int .i64 0))
            have H96 := Lib.hid ((H9.out.other (a := ⟨bf, 0, none⟩) HBl.out (.int .i64 0)).other (a := ⟨bf, 1, none⟩) HBl.out (.int .i64 0))
            generalize (W5.setCell ⟨bf, 0, none⟩ (.int .i64 0)).setCell ⟨bf, 1, none⟩ (.int .i64 0) = W6 at K6 HO6 HA6 H96 ⊢
            clear K5 HO5 HA5 H9 p0 p1 pf
            obtain ⟨x0, x1, x2, -⟩ := box3 K6.out.box
            go_wp2_with fail
            refine (HOf2.out _ (Reads.of_own HO6.out)).mono ?_
            rintro e W7 hr
            obtain ⟨b2, rfl, h9, hb⟩ := hr.ok rfl
            have hbn := below_new W7 (.cells #[.int .i64 0, .int .i64 0] 31)
            have K7 := K6.out.below' hb
            have K8 := K7.below' hbn
            have KK := Lib.hid (show TuK w (W7.alloc (.cells #[.int .i64 0, .int .i64 0] 31)) b0 W3.heap.size N M A1 c1 t wr.heap.size b1 W6.heap.size b2 S S' from
              ⟨K8.bel, K8.box, (HA6.out.below hb HA6.out.lt).below hbn (HA6.out.below hb HA6.out.lt).lt, (H96.out.below hb).below hbn, h9.below hbn⟩)
            have p0 := K8.fbx.cell (i := 0) (by omega)
            have p1 := K8.fbx.cell (i := 1) (by omega)
            obtain ⟨q0, q1, -⟩ := row2 (heap_alloc_new W7 (.cells #[.int .i64 0, .int .i64 0] 31))
            clear hr h9 hb hbn K7 K8 HOf2 HO6 HA6 H96 K6 x0 x1 x2
            go_wp2_with fail
            refine (L_c _ KK.out.x HFin.out HNn.out).mono ?_
            rintro e V1 hr
            rw [← HM.out] at hr
            obtain ⟨AL, zL, cL, rfl, hlL, hzL, hrL, hb⟩ := RetMx.liesM hr (HEl.out S)
            have K1 := Lib.hid (KK.out.below hb)
            have HZ1 := Lib.hid (And.intro hlL hzL)
            have HR1 := Lib.hid hrL
            clear hr hlL hzL hrL hb KK p0 p1 q0 q1
            go_wp2_with fail
            refine (L_c _ K1.out.y HFin2.out HNn.out).mono ?_
            rintro e V2 hr
            rw [← HM.out] at hr
            obtain ⟨AM, zM, cM, rfl, hlM, hzM, hrM, hb⟩ := RetMx.liesM hr (HEl.out S')
            have K2 := Lib.hid (K1.out.below hb)
            have HSm := Lib.hid (SameMatrix_t (N : Nat) (N : Nat) AL AM zL zM M cL cM V2 HZ1.out.1 hlM (by rw [HZ1.out.2, hzM, HLow.out]) (by have := HM4.out; omega) ((HR1.out.below hb).more hb.size) hrM)
            clear hr hlM hzM hrM hb K1 HZ1 HR1
            go_wp2_with fail
            refine HSm.out.mono ?_
            rintro e V3 ⟨rfl, hb⟩
            have K3 := Lib.hid (K2.out.below hb)
            clear hb K2 HSm
            go_wp2_with fail
            refine (U_c _ K3.out.x HFin.out HNn.out).mono ?_
            rintro e V4 hr
            rw [← HM.out] at hr
            obtain ⟨AL, zL, cL, rfl, hlL, hzL, hrL, hb⟩ := RetMx.liesM hr (HEu.out S)
            have K4 := Lib.hid (K3.out.below hb)
            have HZ1 := Lib.hid (And.intro hlL hzL)
            have HR1 := Lib.hid hrL
            clear hr hlL hzL hrL hb K3
            go_wp2_with fail
            refine (U_c _ K4.out.y HFin2.out HNn.out).mono ?_
            rintro e V5 hr
            rw [← HM.out] at hr
            obtain ⟨AM, zM, cM, rfl, hlM, hzM, hrM, hb⟩ := RetMx.liesM hr (HEu.out S')
            have K5 := Lib.hid (K4.out.below hb)
            have HSm := Lib.hid (SameMatrix_t (N : Nat) (N : Nat) AL AM zL zM M cL cM V5 HZ1.out.1 hlM (by rw [HZ1.out.2, hzM, HUpp.out]) (by have := HM4.out; omega) ((HR1.out.below hb).more hb.size) hrM)
            clear hr hlM hzM hrM hb K4 HZ1 HR1
            go_wp2_with fail
            refine HSm.out.mono ?_
            rintro e V6 ⟨rfl, hb⟩
            have K6 := Lib.hid (K5.out.below hb)
            clear hb K5 HSm
            go_wp2_with fail
            refine (Order_c V6 K6.out.x HNn.out).mono ?_
            rintro e V7 hr
            obtain ⟨Ao, co, rfl, hro, -, hb⟩ := RetO.lies hr
            have K7 := Lib.hid (K6.out.below hb)
            have HRo1 := Lib.hid hro
            clear hr hro hb K6
            go_wp2_with fail
            refine (Order_c V7 K7.out.y HNn.out).mono ?_
            rintro e V8 hr
            obtain ⟨Ap, cp, rfl, hrp, -, hb⟩ := RetO.lies hr
            have K8 := Lib.hid (K7.out.below hb)
            have HRp := Lib.hid hrp
            have HRq := Lib.hid ((HRo1.out.below hb).more hb.size)
            clear hr hrp hb K7 HRo1
            obtain ⟨x0, x1, x2, -⟩ := box3 K8.out.box
            go_wp2
            go_loopw [22] (fun iv wq => ∃ i d : Nat, i ≤ N ∧ iv = .int .i64 (i : Nat) ∧ wq = V8.drewN d) (fun iv _ => N - (intOf iv).toNat)
            case atStart => exact ⟨0, 0, Nat.zero_le _, rfl, rfl⟩
            case round =>
              obtain ⟨i, d, hi, rfl, rfl⟩ := hrel
              have KD := Lib.hid (K8.out.below (below_drewN (Below.refl V8.heap.size V8) d))
              obtain ⟨x0, x1, x2, -⟩ := box3 KD.out.box
              have HNb := HNn.out
              have hib : (i : Int) + 1 ≤ 65 := by omega
              clear HNb
              by_cases hlt : i < N
              · have hli : (i : Int) < (N : Int) := Int.ofNat_lt.2 hlt
                obtain ⟨y, hy⟩ : ∃ y, y = S'.o i := ⟨_, rfl⟩
                obtain ⟨z, hz⟩ : ∃ z, z = t y := ⟨_, rfl⟩
                have hz2 : z = S.o i := by rw [hz, hy]; exact HOrd.out i hlt
                have hyn : y < N := by rw [hy]; exact HOlt.out i hlt
                have hyi : (y : Int) < (N : Int) := Int.ofNat_lt.2 hyn
                have hv : (intsV ((List.range N).map fun i => ((S'.o i : Nat) : Int)))[i]? = some (.int .i64 (y : Nat)) := by rw [hy]; exact ordV_at hlt
                have hu : (intsV ((List.range N).map fun i => ((S.o i : Nat) : Int)))[i]? = some (.int .i64 (z : Nat)) := by rw [hz2]; exact ordV_at hlt
                obtain ⟨a1, rfl, -, hc1⟩ := HRp.out.at_ hv
                obtain ⟨a2, rfl, -, hc2⟩ := HRq.out.at_ hu
                have hcg := KD.out.at_.cell hyn
                rw [← hz] at hcg
                have d1 : (V8.drewN d).cell? (a1.add i) = some (.int .i64 (y : Nat)) := hc1
                have d2 : (V8.drewN d).cell? (a2.add i) = some (.int .i64 (z : Nat)) := hc2
                obtain ⟨W, hW⟩ : ∃ W, W = V8.drewN d := ⟨_, rfl⟩
                have HW := Lib.hid hW
                rw [← hW] at KD x0 x1 x2 hcg d1 d2 ⊢
                clear hy hz hz2 hv hu hc1 hc2 hyn hW
                go_wp2
                go_quiet (fail)
                all_goals
                  go_wp2
                  go_roundw
                  case rel => exact ⟨i + 1, _, hlt, by go_num, by first | rfl | (rw [HW.out, World.drewN_drewN])⟩
                  case measure => simp [intOf]; omega
              · have e : N = i := by omega
                subst e
                have HE1 := Lib.hid (fun (V : World) (h : Reads V V.heap.size Ao (intsV ((List.range N).map fun i => ((S.o i : Nat) : Int)))) => even_c Ao S.o N co V HNn.out h)
                have HE2 := Lib.hid (fun (V : World) (h : Reads V V.heap.size Ap (intsV ((List.range N).map fun i => ((S'.o i : Nat) : Int)))) => even_c Ap S'.o N cp V HNn.out h)
                rw [← HSg.out] at HE1
                rw [← HSg2.out] at HE2
                have HRq2 := Lib.hid (show Reads (V8.drewN d) (V8.drewN d).heap.size Ao (intsV ((List.range N).map fun i => ((S.o i : Nat) : Int))) from HRq.out)
                have HRp2 := Lib.hid (show Reads (V8.drewN d) (V8.drewN d).heap.size Ap (intsV ((List.range N).map fun i => ((S'.o i : Nat) : Int))) from HRp.out)
                generalize V8.drewN d = W at KD HRq2 HRp2 x0 x1 x2 ⊢
                go_wp2_with fail
                refine (Sign_c W KD.out.x).mono ?_
                rintro e w' ⟨rfl, rfl⟩
                go_wp2_with fail
                refine (HE1.out W HRq2.out).mono ?_
                rintro e w' ⟨rfl, d1, hd1⟩
                have KD2 := Lib.hid (KD.out.below (show Below W.heap.size W w' by rw [hd1]; exact below_drewN (Below.refl _ _) d1))
                have HRp3 := Lib.hid (show Reads w' w'.heap.size Ap (intsV ((List.range N).map fun i => ((S'.o i : Nat) : Int))) by rw [hd1]; exact HRp2.out)
                clear hd1 HRq2 HRp2 HE1 KD
                go_wp2_with fail
                refine (Sign_c w' KD2.out.y).mono ?_
                rintro e w'' ⟨rfl, rfl⟩
                go_wp2_with fail
                refine (HE2.out w' HRp3.out).mono ?_
                rintro e w'' ⟨rfl, d2, hd2⟩
                have B2 := Lib.hid (KD2.out.bel.trans ((show Below w'.heap.size w' w'' by rw [hd2]; exact below_drewN (Below.refl _ _) d2).mono KD2.out.bel.size))
                clear hd2 HRp3 HE2 KD2
                go_wp2_with fail
                refine (awake9_c w'').mono ?_
                rintro e w3 ⟨rfl, hb⟩
                have B3 := Lib.hid (B2.out.trans (hb.mono B2.out.size))
                clear hb
                go_wp2
                go_ret
                exact ⟨rfl, B3.out⟩
end Go.Proofs.Ytibjkmjccelcaaa
