/- The document's layer 12: inverses, how far errors are carried (gridworkref12.Of, Carried). -/
import Derived.Test.YtajdfbjjgjpicaaRQ2
import Derived.Test.YtajdfbjjgjpicaaIV2
import Derived.Test.YtajdfbjjgjpicaaRM1
import Derived.BigQuiet
namespace Go.Proofs.Ytajdfbjjgjpicaa
open Go.RowKit Fl Ieee
set_option maxRecDepth 20000
attribute [local go_sem] run_store_float run_store_complex Fl.order_self Fl.order_self'
theorem retR_ok {n : Nat} {f : Int × Int} {S0' S : El} {w w' : World} {e : Ending} (h : RetROf f n S0' S w e w') (hf : f = (0, 0)) : ∃ b ti, e = .returned (.tuple #[.pointer (some ⟨b, 0, none⟩), .agg #[.int .i64 0, .int .i64 0]]) ∧ rHas w' w.heap.size b n S ti ∧ Below w.heap.size w w' := by
  subst hf
  obtain ⟨v, rfl, hb, h1, -⟩ := h
  obtain ⟨-, b, ti, rfl, h9, -⟩ := h1 rfl
  exact ⟨b, ti, rfl, h9, hb⟩
theorem retR_bad {n : Nat} {f : Int × Int} {S0' S : El} {w w' : World} {e : Ending} (h : RetROf f n S0' S w e w') (hf : f.1 ≠ 0) : e = .returned (.tuple #[.pointer none, .agg #[.int .i64 f.1, .int .i64 f.2]]) ∧ Below w.heap.size w w' := by
  obtain ⟨v, rfl, hb, -, h1⟩ := h
  rw [h1 hf]
  exact ⟨rfl, hb⟩
theorem slice_blk {a b n m c d : Nat} (h : Value.slice (some ⟨a, 0, none⟩) n c = .slice (some ⟨b, 0, none⟩) m d) : a = b := by
  injection h with h
  injection h with h
  injection h
theorem rinv_bad (r c : Int) (A : Option Addr) (l : List C) (cap : Nat) (w : World) (hrd : Reads w w.heap.size A (nums l)) (hlt : ltCs l) (hF : (ofF r c l).1 ≠ 0) (n : Nat) (E : Nat → Nat → C) :
    Calls Try.prog 42 #[mval r c (.slice A l.length cap)] w (RetI (ofF r c l) n E w) := by
  obtain ⟨Wf, hWf, hm, hr, hff, hbw, hsz⟩ := frameI w r c (.slice A l.length cap)
  obtain ⟨f1, f2, hf⟩ : ∃ f1 f2, ofF r c l = (f1, f2) := ⟨_, _, rfl⟩
  have HOf := Lib.hid (show Calls Try.prog 77 #[mval r c (.slice A l.length cap)] Wf fun e w' => e = .returned (.tuple #[.pointer none, .agg #[.int .i64 f1, .int .i64 f2]]) ∧ Below Wf.heap.size Wf w' from
    (rOf_c r c A l cap Wf ((hrd.below hbw).more hbw.size) hlt).mono fun e w' h => by
      have h' := retR_bad h hF
      rw [hf] at h'; exact h')
  rw [hf] at hF ⊢
  have hne : (f1 == 0) = false := by simpa using hF
  have HR := Lib.hid hr
  have HFf := Lib.hid hff
  have HBw := Lib.hid hbw
  have HSz := Lib.hid hsz
  have HF0 := Lib.hid (show f1 ≠ 0 from hF)
  rw [hWf] at HOf
  have HWf := Lib.hid hWf
  clear hrd hlt hF hm hr hff hbw hsz hf hWf
  go_enter Try.func42, Try.ntmps42
  go_wp2_with fail
  refine HOf.out.mono ?_
  rintro e W1 ⟨rfl, hb⟩
  rw [← HWf.out] at hb
  have hb2 := hb.trans ((below_new W1 (.cells #[.int .i64 f1, .int .i64 f2] 43)).mono hb.size)
  have hr1 := row_keep hb2 HR.out
  have hf1 := row_keep hb2 HFf.out
  have HR1 := Lib.hid hr1
  have HF1 := Lib.hid hf1
  have HB1 := Lib.hid (HBw.out.trans (hb2.mono HBw.out.size))
  obtain ⟨c0, c1, c2, fr⟩ := box3 hr1
  obtain ⟨d0, d1, fd⟩ := row2 hf1
  have f0 := fr 0
  have f1' := fr 1
  have f2' := fr 2
  have g0 := fd 0
  have g1 := fd 1
  obtain ⟨e0, e1, fe⟩ := row2 (heap_alloc_new W1 (.cells #[.int .i64 f1, .int .i64 f2] 43))
  have hlt := hb.size
  rw [HSz.out] at hlt
  have n0 : W1.heap.size ≠ w.heap.size + 1 := by omega
  have n1 : w.heap.size + 1 ≠ W1.heap.size := by omega
  have n4 : W1.heap.size ≠ w.heap.size + 1 + 1 := by omega
  have n5 : w.heap.size + 1 + 1 ≠ W1.heap.size := by omega
  have n2 : W1.heap.size ≠ w.heap.size + 2 := by omega
  have n3 : w.heap.size + 2 ≠ W1.heap.size := by omega
  clear hb hb2 hr1 hf1 fr fd hlt
  go_wp2
  go_region
  all_goals go_wp2
  all_goals
    obtain ⟨q0, q1, q2, q3, q4⟩ := put32 (u := .int .i64 0) (v := .int .i64 0) (s := .slice none 0 0) (p := .int .i64 f1) (q := .int .i64 f2) HR1.out HF1.out (by omega)
    refine bodyPost_ret (v := .tuple #[mval 0 0 (.slice none 0 0), .agg #[.int .i64 f1, .int .i64 f2]]) (by simp [results, Try.results42, go_sem, q0, q1, q2, q3, q4]) rfl ?_
    exact ⟨(((((HB1.out.setCell (Nat.le_succ _) _).setCell (Nat.le_succ _) _).setCell (Nat.le_succ _) _).setCell (by show w.heap.size ≤ w.heap.size + 1 + 1; omega) _).setCell (by show w.heap.size ≤ w.heap.size + 1 + 1; omega) _).drew, fun h => absurd h HF0.out, fun _ => rfl⟩
/-- The document's inverse that is being written. -/
structure RvF (w W1 W : World) (B b n : Nat) (S : El) (ti : Bool) : Prop where
  bel : Below w.heap.size w W
  r : W.heap[w.heap.size + 1]? = some zrow
  f : W.heap[w.heap.size + 2]? = some (.cells #[.int .i64 0, .int .i64 0] 43)
  has : rHas W1 B b n S ti
  keep : ∀ j, B ≤ j → j < W1.heap.size → W.heap[j]? = W1.heap[j]?
  size : w.heap.size + 3 ≤ W1.heap.size
  le : W1.heap.size ≤ W.heap.size
structure RvS (w W1 W : World) (mb g B b n : Nat) (S : El) (ti : Bool) (zs : Nat → C) : Prop extends RvF w W1 W B b n S ti where
  box : W.heap[mb]? = some (.cells #[.int .i64 (n : Nat), .int .i64 (n : Nat), .slice (some ⟨g, 0, none⟩) (n * n) (n * n)] 28)
  row : W.heap[g]? = some (.cells (nums ((List.range (n * n)).map zs)).toArray 53)
  mg : mb ≠ g
  gn : W1.heap.size ≤ g
theorem RvF.below {w W1 W V : World} {B b n : Nat} {S : El} {ti : Bool} (h : RvF w W1 W B b n S ti) (hb : Below W.heap.size W V) : RvF w W1 V B b n S ti where
  bel := h.bel.trans (hb.mono h.bel.size)
  r := row_keep hb h.r
  f := row_keep hb h.f
  has := h.has
  keep j h1 h2 := by
    rw [hb.block j (Nat.lt_of_lt_of_le h2 h.le)]; exact h.keep j h1 h2
  size := h.size
  le := Nat.le_trans h.le hb.size
theorem RvF.has9 {w W1 W : World} {B b n : Nat} {S : El} {ti : Bool} (h : RvF w W1 W B b n S ti) : rHas W B b n S ti := h.has.keep h.keep
theorem RvF.other {w W1 W : World} {B b n : Nat} {S : El} {ti : Bool} (h : RvF w W1 W B b n S ti) {a : Addr} (ha : W1.heap.size ≤ a.block) (v : Value) : RvF w W1 (W.setCell a v) B b n S ti where
  bel := h.bel.setCell (by have := h.size; omega) _
  r := by rw [Below.heap_setCell _ _ _ _ (by have := h.size; omega)]; exact h.r
  f := by rw [Below.heap_setCell _ _ _ _ (by have := h.size; omega)]; exact h.f
  has := h.has
  keep j h1 h2 := by rw [Below.heap_setCell _ _ _ _ (by omega)]; exact h.keep j h1 h2
  size := h.size
  le := by simp [World.setCell]; exact h.le
namespace RvS
variable {w W1 W V : World} {mb g B b n : Nat} {S : El} {ti : Bool} {zs : Nat → C}
theorem below (h : RvS w W1 W mb g B b n S ti zs) (hb : Below W.heap.size W V) : RvS w W1 V mb g B b n S ti zs :=
  { h.toRvF.below hb with
    box := row_keep hb h.box
    row := row_keep hb h.row
    mg := h.mg
    gn := h.gn }
theorem put (h : RvS w W1 W mb g B b n S ti zs) (p : Nat) (z : C) : RvS w W1 (W.setCell ⟨g, p, none⟩ (.complex .f64 z.1 z.2)) mb g B b n S ti (putX zs p z) :=
  { h.toRvF.other (a := ⟨g, p, none⟩) h.gn _ with
    box := by rw [Below.heap_setCell _ _ _ _ (by show mb ≠ g; exact h.mg)]; exact h.box
    row := by
      rw [heap_setCell_same W g p _ _ _ h.row]
      congr 2
      rw [← map_put]
      simp
    mg := h.mg
    gn := h.gn }
theorem frozenX (h : RvS w W1 W mb g B b n S ti zs) (i : Nat) : W.frozen? ⟨g, i, none⟩ = false := frozen_of_row W g i _ _ h.row
theorem cellX (h : RvS w W1 W mb g B b n S ti zs) {i : Nat} (hi : i < n * n) : W.cell? ⟨g, i, none⟩ = some (.complex .f64 (zs i).1 (zs i).2) := by
  rw [cell_of_row W g i _ _ _ h.row]
  simp [nums, hi]
theorem cells (h : RvS w W1 W mb g B b n S ti zs) :
    W.cell? ⟨w.heap.size + 1, 0, none⟩ = some (.int .i64 0) ∧ W.cell? ⟨w.heap.size + 1, 1, none⟩ = some (.int .i64 0) ∧ W.cell? ⟨w.heap.size + 1, 2, none⟩ = some (.slice none 0 0) ∧ (∀ j, W.frozen? ⟨w.heap.size + 1, j, none⟩ = false) ∧
      W.cell? ⟨w.heap.size + 1 + 1, 0, none⟩ = some (.int .i64 0) ∧ W.cell? ⟨w.heap.size + 1 + 1, 1, none⟩ = some (.int .i64 0) ∧ (∀ j, W.frozen? ⟨w.heap.size + 1 + 1, j, none⟩ = false) := by
  obtain ⟨a, b, c, d⟩ := box3 h.r
  obtain ⟨x, y, z⟩ := row2 h.f
  exact ⟨a, b, c, d, x, y, z⟩
theorem own {E : Nat → Nat → C} (h : RvS w W1 W mb g B b n S ti zs) (hz : ∀ i j, i < n → j < n → zs (i * n + j) = E i j) (hn : n ≤ 64) :
    W.ownsRow w.heap.size 53 1 (.slice (some ⟨g, 0, none⟩) (n * n) (n * n)) (n * n) (nums (entries n E (n * n))) := by
  have e : (List.range (n * n)).map zs = entries n E (n * n) := List.map_congr_left fun p hp => by
    have hp := List.mem_range.1 hp
    have hn0 : 0 < n := Nat.pos_of_ne_zero fun h0 => by subst h0; simp at hp
    have h1 : p / n < n := Nat.div_lt_of_lt_mul hp
    have h2 := hz (p / n) (p % n) h1 (Nat.mod_lt _ hn0)
    rw [Nat.div_add_mod'] at h2
    exact h2
  have h4 : n * n ≤ 4096 := prod_small hn hn
  refine ⟨by simp [nums, entries], .inr ⟨g, n * n, _, rfl, ?_, h.row, Nat.le_refl _, by unfold maxLen; omega, by simp [nums], ?_⟩⟩
  · have := h.size; have := h.gn; omega
  · rw [e]
    show ((nums (entries n E (n * n))).take (n * n * 1)) = _
    exact List.take_of_length_le (by simp [nums, entries])
end RvS
theorem RvF.end_ {w W1 W : World} {B b n : Nat} {S : El} {ti : Bool} (h : RvF w W1 W B b n S ti) (u v s p q : Value) :
    Below w.heap.size w ((((((W.setCell ⟨w.heap.size + 1, 0, none⟩ u).setCell ⟨w.heap.size + 1, 1, none⟩ v).setCell ⟨w.heap.size + 1, 2, none⟩ s).setCell ⟨w.heap.size + 1 + 1, 0, none⟩ p).setCell ⟨w.heap.size + 1 + 1, 1, none⟩ q)) :=
  ((((h.bel.setCell (Nat.le_succ _) _).setCell (Nat.le_succ _) _).setCell (Nat.le_succ _) _).setCell (by show w.heap.size ≤ w.heap.size + 1 + 1; omega) _).setCell (by show w.heap.size ≤ w.heap.size + 1 + 1; omega) _
theorem RvF.start {w W1 X : World} {B b n M : Nat} {S : El} {ti : Bool} (h : RvF w W1 X B b n S ti) (hM : M = n * n) :
    RvS w W1 ((X.alloc (.cells (madeCells #[.complex .f64 0 0] M) 53)).alloc (.cells #[.int .i64 (n : Nat), .int .i64 (n : Nat), .slice (some ⟨X.heap.size, 0, none⟩) M M] 28)) (X.heap.size + 1) X.heap.size B b n S ti (fun _ => (0, 0)) := by
  subst hM
  have h1 := (h.below (below_new X (.cells (madeCells #[.complex .f64 0 0] (n * n)) 53))).below (below_new _ (.cells #[.int .i64 (n : Nat), .int .i64 (n : Nat), .slice (some ⟨X.heap.size, 0, none⟩) (n * n) (n * n)] 28))
  exact
    { h1 with
      box := row_new2 X _ _
      row := by
        rw [nums_zero, ← mk_nums]
        exact row_alloc (heap_alloc_new X _)
      mg := by omega
      gn := h.le }
/-- A column is asked for. -/
theorem rcol_c {B b n : Nat} {S : El} {ti : Bool} (j : Nat) (w : World) (h : rHas w B b n S ti) (hf : finTo S.E n) (hp : Perm n S.o) (hn : n ≤ 64) (hrd : Reads w w.heap.size (some ⟨w.heap.size - 1, 0, none⟩) (nums (eCol n j))) :
    Calls Try.prog 78 #[.pointer (some ⟨b, 0, none⟩), .slice (some ⟨w.heap.size - 1, 0, none⟩) n n] w (RetSol (if colOk n S j then 0 else 6) (if colOk n S j then colI n S j else []) w) := by
  have h1 := rSolve_run (some ⟨w.heap.size - 1, 0, none⟩) (eCol n j) n w h hf hp hn (eCol_len n j) (eCol_fin n j) (eCol_lt n j) hrd
  rw [eCol_len] at h1
  exact h1
set_option linter.unusedSimpArgs false in
set_option maxHeartbeats 32000000 in
theorem rinv_good (n : Nat) (A : Option Addr) (l : List C) (cap : Nat) (w : World) (hn : n ≤ 64) (hl : l.length = n * n) (hrd : Reads w w.heap.size A (nums l)) (hlt : ltCs l) (hF : (ofF n n l).1 = 0) :
    Calls Try.prog 42 #[mval n n (.slice A l.length cap)] w (RetI (if invJ n (ofS n l) < n then (6, (invJ n (ofS n l) : Int)) else (0, 0)) n (invE n (ofS n l)) w) := by
  obtain ⟨hfin, hf, h0⟩ := of_fin hn hl hF
  have hperm : Perm n (ofS n l).o := of_perm
  have hfinE : finTo (ofS n l).E n := elRun_fin (matE_fin hl hfin) n (Nat.le_refl _)
  obtain ⟨S, hS⟩ : ∃ S, S = ofS n l := ⟨_, rfl⟩
  obtain ⟨M, hM⟩ : ∃ M, M = n * n := ⟨_, rfl⟩
  have hM4 : M ≤ 4096 := by rw [hM]; exact prod_small hn hn
  have hLM : l.length = M := hl.trans hM.symm
  obtain ⟨Wf, hWf, hm, hr, hff, hbw, hsz⟩ := frameI w n n (.slice A l.length cap)
  have HOf := Lib.hid (show Calls Try.prog 77 #[mval n n (.slice A l.length cap)] Wf fun e w' => ∃ b ti, e = .returned (.tuple #[.pointer (some ⟨b, 0, none⟩), .agg #[.int .i64 0, .int .i64 0]]) ∧ rHas w' Wf.heap.size b n S ti ∧ Below Wf.heap.size Wf w' from
    (rOf_c n n A l cap Wf ((hrd.below hbw).more hbw.size) hlt).mono fun e w' h => by rw [hS]; exact retR_ok h hf)
  rw [← hS] at hperm hfinE ⊢
  have HPe := Lib.hid hperm
  have HFi := Lib.hid hfinE
  have HR := Lib.hid hr
  have HMt := Lib.hid hm
  have HFf := Lib.hid hff
  have HBw := Lib.hid hbw
  have HSz := Lib.hid hsz
  have HM := Lib.hid hM
  have HM4 := Lib.hid hM4
  have HN := Lib.hid hn
  rw [hWf, hLM] at HOf
  rw [hLM]
  rw [hLM] at HMt
  obtain ⟨ff, hff2⟩ : ∃ ff : Int × Int, ff = if invJ n S < n then (6, (invJ n S : Int)) else (0, 0) := ⟨_, rfl⟩
  rw [← hff2]
  have HFF := Lib.hid hff2
  clear hff2
  rw [hLM] at hWf
  have HWf := Lib.hid hWf
  have hmk := run_make_row' (P := Try.prog) 25 53 (.complex .f64 0 0) 16 Try.underlying25 infoNum rfl .i64 .i64 M (by omega) (by omega)
  have hmkn := run_make_row' (P := Try.prog) 25 53 (.complex .f64 0 0) 16 Try.underlying25 infoNum rfl .i64 .i64 n (by omega) (by omega)
  have hmw : IntKind.i64.wrap ((n : Int) * (n : Int)) = (M : Int) := wrapI (by rw [hM, Int.natCast_mul]) (by omega)
  have hmw2 : wrap64 ((n : Int) * (n : Int)) = (M : Int) := wrap64I (by rw [hM, Int.natCast_mul]) (by omega)
  clear hrd hlt hF hm hr hff hbw hsz hl hf h0 hfin hperm hfinE hS hLM hM hM4 hn hWf
  go_enter Try.func42, Try.ntmps42
  go_wp2_with fail
  refine HOf.out.mono ?_
  rintro e W1 ⟨b, ti, rfl, h9, hb⟩
  rw [← HWf.out] at hb h9
  have hb2 := hb.trans ((below_new W1 (.cells #[.int .i64 0, .int .i64 0] 43)).mono hb.size)
  have HV := Lib.hid (show RvF w W1 (W1.alloc (.cells #[.int .i64 0, .int .i64 0] 43)) Wf.heap.size b n S ti from
    { bel := HBw.out.trans (hb2.mono HBw.out.size)
      r := row_keep hb2 HR.out
      f := row_keep hb2 HFf.out
      has := h9
      keep := fun j _ h2 => (below_new W1 _).block j h2
      size := by have := hb.size; rw [HSz.out] at this; exact this
      le := by simp })
  obtain ⟨x0, x1, x2, -⟩ := box3 (row_keep hb2 HMt.out)
  obtain ⟨e0, e1, -⟩ := row2 (heap_alloc_new W1 (.cells #[.int .i64 0, .int .i64 0] 43))
  obtain ⟨X, hX⟩ : ∃ X, X = W1.alloc (.cells #[.int .i64 0, .int .i64 0] 43) := ⟨_, rfl⟩
  have HX := Lib.hid hX
  rw [← hX] at HV x0 x1 x2 e0 e1
  clear hb h9 hb2 hX HOf HR HFf HMt HBw HWf
  go_upto_region 2 with fail
  rw [← HX.out]
  have HS0 := Lib.hid (HV.out.start HM.out)
  clear HX
  go_wp2
  clear hmk hmw hmw2
  go_loopw [8, 9, 10, 11, 12] (fun iv _ _ _ _ wr => ∃ (j : Nat) (zs : Nat → C), j ≤ n ∧ iv = .int .i64 (j : Nat) ∧ RvS w W1 wr (X.heap.size + 1) X.heap.size Wf.heap.size b n S ti zs ∧ Hid (∀ i q, i < n → q < j → zs (i * n + q) = invE n S i q) ∧ Hid (∀ q, q < j → colOk n S q = true)) (fun iv _ _ _ _ _ => n - (intOf iv).toNat)
  case atStart => exact ⟨0, _, Nat.zero_le _, rfl, HS0.out, Lib.hid (fun i q _ hq => by omega), Lib.hid (fun q hq => by omega)⟩
  case round =>
    obtain ⟨j, zs, hj, rfl, hs, hz, hok⟩ := hrel
    have HS := Lib.hid hs
    have HZ := hz
    have HOk := hok
    have hjb : (j : Int) + 1 ≤ 65 := by have := HN.out; omega
    clear hs
    by_cases hlt : j < n
    · have hlti : (j : Int) < (n : Int) := Int.ofNat_lt.2 hlt
      obtain ⟨u, hu⟩ : ∃ u, (wr.alloc (.cells (madeCells #[.complex .f64 0 0] n) 53)).cell? ⟨wr.heap.size, j, none⟩ = some u := by
        rw [cell_of_row _ wr.heap.size j _ _ _ eCol_row]
        exact ⟨_, Array.getElem?_eq_getElem (by simp [nums]; exact hlt)⟩
      have hfr : (wr.alloc (.cells (madeCells #[.complex .f64 0 0] n) 53)).frozen? ⟨wr.heap.size, j, none⟩ = false := frozen_of_row _ wr.heap.size j _ _ eCol_row
      have hbw := below_new wr (.cells ((madeCells #[.complex .f64 0 0] n).setIfInBounds j (.complex .f64 4607182418800017408 0)) 53)
      have hSv := HS.out.below hbw
      rw [eCol_set] at hSv
      have hrd : Reads (wr.alloc (.cells (nums (eCol n j)).toArray 53)) (wr.alloc (.cells (nums (eCol n j)).toArray 53)).heap.size (some ⟨wr.heap.size, 0, none⟩) (nums (eCol n j)) :=
        (Reads.new wr 53 (nums (eCol n j))).more (by simp)
      have hcall := rSolve_run (some ⟨wr.heap.size, 0, none⟩) (eCol n j) n _ hSv.has9 HFi.out HPe.out HN.out (eCol_len n j) (eCol_fin n j) (eCol_lt n j) hrd
      rw [eCol_len] at hcall
      rw [← eCol_set] at hcall hSv
      have HC := Lib.hid hcall
      have HSv := Lib.hid hSv
      rw [show (if solOk n S (eCol n j) = true then (0 : Int) else 6) = (if colOk n S j = true then 0 else 6) from rfl, show (if solOk n S (eCol n j) = true then solL n S (eCol n j) else []) = (if colOk n S j = true then colI n S j else []) from rfl] at HC
      clear hbw hSv hrd hcall
      cases hc : colOk n S j
      · rw [hc] at HC
        simp only [Bool.false_eq_true, if_false] at HC
        have HF6 := Lib.hid (show ff = (6, (j : Int)) from by
          have h1 : invJ n S = j := invJ_of hlt HOk.out hc
          rw [HFF.out, h1, if_pos hlt])
        go_wp2_with fail
        refine HC.out.mono ?_
        rintro e V ⟨s, rfl, -, hb⟩
        have HSV := Lib.hid (HSv.out.below hb)
        obtain ⟨c0, c1, c2, cf, d0, d1, df⟩ := (HSv.out.below hb).cells
        have cf0 := cf 0
        have cf1 := cf 1
        have cf2 := cf 2
        have df0 := df 0
        have df1 := df 1
        clear hb cf df u hu hfr HC HSv
        go_wp2
        obtain ⟨q0, q1, q2, q3, q4⟩ := put32n (u := .int .i64 0) (v := .int .i64 0) (s := .slice none 0 0) (p := .int .i64 6) (q := .int .i64 (j : Nat)) HSV.out.r HSV.out.f (by omega)
        refine bodyPost_ret (v := .tuple #[mval 0 0 (.slice none 0 0), .agg #[.int .i64 6, .int .i64 (j : Nat)]]) (by simp [results, Try.results42, go_sem, q0, q1, q2, q3, q4]) rfl ?_
        rw [HF6.out]
        exact ⟨HSV.out.end_ _ _ _ _ _, fun h => absurd (show (6 : Int) = 0 from h) (by decide), fun _ => rfl⟩
      · rw [hc] at HC
        simp only [if_true] at HC
        go_wp2_with fail
        refine HC.out.mono ?_
        rintro e V hr
        obtain ⟨A2, c2, rfl, hown, hb⟩ := hr.ok (colI_len n S j)
        have HSV := Lib.hid (HSv.out.below hb)
        have HO := Lib.hid (own_base hown (B' := wr.heap.size) (by simp))
        have HSz2 := Lib.hid (show X.heap.size < wr.heap.size from row_lt HS.out.row)
        clear hr hown hb u hu hfr HC HSv
        go_wp2
        go_loopw [12] (fun i wx => ∃ (i0 : Nat) (zx : Nat → C), i0 ≤ n ∧ i = .int .i64 (i0 : Nat) ∧ RvS w W1 wx (X.heap.size + 1) X.heap.size Wf.heap.size b n S ti zx ∧ wx.ownsRow wr.heap.size 53 1 (.slice A2 n c2) n (nums (colI n S j)) ∧ Hid (∀ i q, i < n → q < j → zx (i * n + q) = invE n S i q) ∧ Hid (∀ i, i < i0 → zx (i * n + j) = invE n S i j)) (fun i _ => n - (intOf i).toNat)
        case atStart => exact ⟨0, _, Nat.zero_le _, rfl, HSV.out, HO.out, HZ, Lib.hid (fun i hi => by omega)⟩
        case round =>
          rename World => w2
          obtain ⟨i0, zx, hi0, rfl, hs, hown, hz, hzj⟩ := hrel
          have HSx := Lib.hid hs
          have HOx := Lib.hid hown
          have HZx := hz
          have HZj := hzj
          have hib : (i0 : Int) + 1 ≤ 65 := by have := HN.out; omega
          obtain ⟨m0, m1, m2, -⟩ := box3 hs.box
          rw [← HM.out] at m2
          clear hs hown
          by_cases hi : i0 < n
          · have hii : (i0 : Int) < (n : Int) := Int.ofNat_lt.2 hi
            obtain ⟨ad, rfl, -, hce⟩ := (Reads.of_own HOx.out).at_ (colI_get hi)
            obtain ⟨zv, hzv⟩ : ∃ zv, zv = invE n S i0 j := ⟨_, rfl⟩
            rw [← hzv] at hce
            obtain ⟨p, hp⟩ : ∃ p, p = i0 * n + j := ⟨_, rfl⟩
            have hpM : p < M := by
              have h1 : (i0 + 1) * n ≤ n * n := Nat.mul_le_mul_right _ hi
              rw [Nat.add_mul, Nat.one_mul] at h1
              rw [hp, HM.out]; omega
            have hm4 := HM4.out
            have hm1 : IntKind.i64.wrap (IntKind.i64.wrap ((i0 : Int) * (n : Int)) + (j : Int)) = (p : Int) := by
              rw [show IntKind.i64.wrap ((i0 : Int) * (n : Int)) = ((i0 * n : Nat) : Int) from wrapI (by rw [Int.natCast_mul]) (by omega)]
              exact wrapI (by rw [hp, Int.natCast_add]) (by omega)
            have hpi : (p : Int) < (M : Int) := Int.ofNat_lt.2 hpM
            have hcx := HSx.out.cellX (i := p) (by rw [← HM.out]; exact hpM)
            have hfx := HSx.out.frozenX p
            have HP := Lib.hid hp
            have HZv := Lib.hid hzv
            clear hzv hp hm4
            go_wp2_with fail
            go_still_tail 12, (by kernel_rfl)
            change wpList _ _ _ _ _ w2.drew
            have hfd : w2.drew.frozen? ⟨X.heap.size, p, none⟩ = false := hfx
            obtain ⟨v1, hcd⟩ : ∃ v, w2.drew.cell? ⟨X.heap.size, p, none⟩ = some v := ⟨_, hcx⟩
            go_wp2
            go_roundw
            case rel =>
              refine ⟨i0 + 1, _, hi, by go_num, (HSx.out.below (Below.refl _ _).drew).put p zv, ownsRow_setCell_below (show w2.drew.ownsRow wr.heap.size 53 1 _ n (nums (colI n S j)) from HOx.out) (by have := HSz2.out; exact this) _, Lib.hid (fun i q hi' hq => ?_), Lib.hid (fun i hi' => ?_)⟩
              · rw [putX_other]
                · exact HZx.out i q hi' hq
                · rw [HP.out]
                  intro e
                  have h1 := congrArg (· % n) e
                  simp only [Nat.mul_comm _ n, Nat.mul_add_mod] at h1
                  rw [Nat.mod_eq_of_lt (by omega), Nat.mod_eq_of_lt (by omega)] at h1
                  omega
              · by_cases e : i = i0
                · subst e
                  rw [← HP.out, putX_same]; exact HZv.out
                · rw [putX_other]
                  · exact HZj.out i (by omega)
                  · rw [HP.out]
                    intro e2
                    exact e (Nat.eq_of_mul_eq_mul_right (by omega) (Nat.add_right_cancel e2))
            case measure => simp [intOf]; omega
          · have e : i0 = n := by omega
            subst e
            go_wp2
            go_roundw
            case rel =>
              refine ⟨j + 1, _, hlt, by go_num, HSx.out, Lib.hid (fun i q hi' hq => ?_), Lib.hid (fun q hq => ?_)⟩
              · by_cases e : q = j
                · subst e; exact HZj.out i hi'
                · exact HZx.out i q hi' (by omega)
              · by_cases e : q = j
                · subst e; exact hc
                · exact HOk.out q (by omega)
            case measure => simp [intOf]; omega
    · have e : j = n := by omega
      subst e
      have HF0 := Lib.hid (show ff = (0, 0) from by rw [HFF.out, if_neg (invJ_all HOk.out)])
      obtain ⟨c0, c1, c2, cf, d0, d1, df⟩ := HS.out.cells
      have cf0 := cf 0
      have cf1 := cf 1
      have cf2 := cf 2
      have df0 := df 0
      have df1 := df 1
      obtain ⟨m0, m1, m2, -⟩ := box3 HS.out.box
      rw [← HM.out] at m2
      clear cf df
      go_wp2
      obtain ⟨q0, q1, q2, q3, q4⟩ := put32n (u := .int .i64 (j : Nat)) (v := .int .i64 (j : Nat)) (s := .slice (some ⟨X.heap.size, 0, none⟩) M M) (p := .int .i64 0) (q := .int .i64 0) HS.out.r HS.out.f (by omega)
      refine bodyPost_ret (v := .tuple #[mval j j (.slice (some ⟨X.heap.size, 0, none⟩) M M), .agg #[.int .i64 0, .int .i64 0]]) (by simp [results, Try.results42, go_sem, q0, q1, q2, q3, q4]) rfl ?_
      rw [HF0.out]
      refine ⟨HS.out.end_ _ _ _ _ _, fun _ => ⟨_, rfl, ?_⟩, fun h => absurd rfl h⟩
      have ho := HS.out.own (E := invE j S) HZ.out HN.out
      rw [← HM.out] at ho ⊢
      obtain ⟨o1, o2⟩ := ho
      refine ⟨o1, o2.imp id ?_⟩
      rintro ⟨g', cap', cur, e1, o3, o4, o5⟩
      have hgl := HS.out.gn
      have h1 := HS.out.size
      have eg : X.heap.size = g' := slice_blk e1
      subst eg
      exact ⟨X.heap.size, cap', cur, e1, o3, by rw [Below.heap_setCell _ _ _ _ (by show X.heap.size ≠ w.heap.size + 1 + 1; omega), Below.heap_setCell _ _ _ _ (by show X.heap.size ≠ w.heap.size + 1 + 1; omega), Below.heap_setCell _ _ _ _ (by show X.heap.size ≠ w.heap.size + 1; omega), Below.heap_setCell _ _ _ _ (by show X.heap.size ≠ w.heap.size + 1; omega), Below.heap_setCell _ _ _ _ (by show X.heap.size ≠ w.heap.size + 1; omega)]; exact o4, o5⟩
theorem rInv_c (r c : Int) (A : Option Addr) (l : List C) (cap : Nat) (w : World) (hrd : Reads w w.heap.size A (nums l)) (hlt : ltCs l) :
    Calls Try.prog 42 #[mval r c (.slice A l.length cap)] w (RetI (ofI r c l) r.toNat (invE r.toNat (ofS r l)) w) := by
  by_cases hF : (ofF r c l).1 = 0
  · obtain ⟨n, rfl, rfl, hn, hl⟩ := of_shape hF
    have h := rinv_good n A l cap w hn hl hrd hlt hF
    have e : ofI n n l = (if invJ n (ofS n l) < n then (6, (invJ n (ofS n l) : Int)) else (0, 0)) := by
      unfold ofI; rw [if_pos hF]; rfl
    rw [e]
    exact h
  · have e : ofI r c l = ofF r c l := by unfold ofI; rw [if_neg hF]
    rw [e]
    exact rinv_bad r c A l cap w hrd hlt hF _ _
end Go.Proofs.Ytajdfbjjgjpicaa
