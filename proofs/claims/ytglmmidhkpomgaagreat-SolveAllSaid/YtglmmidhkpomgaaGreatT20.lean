/- Layer 10, SolveScales: whole numbers out of bits; many right sides. -/
import Derived.Test.YtglmmidhkpomgaaGreatScD
import Derived.Test.YtglmmidhkpomgaaGreatMrW
namespace Go.Proofs.YtglmmidhkpomgaaGreat
open Go.RowKit Fl Ieee
set_option maxRecDepth 20000
attribute [local go_sem] run_store_float run_store_complex Fl.order_self Fl.order_self' Fl.order_eq Fl.order_ne Fl.order_lt Fl.order_gt
/-- A row that is being filled: its numbers. -/
structure RowF (W : World) (g n : Nat) (F : Nat → C) : Prop where
  x : W.heap[g]? = some (.cells (nums ((List.range n).map F)).toArray 42)
  lt : ∀ q, q < n → ltC (F q)
namespace RowF
variable {W V : World} {g n : Nat} {F : Nat → C}
theorem drew (h : RowF W g n F) : RowF W.drew g n F := ⟨h.x, h.lt⟩
theorem below (h : RowF W g n F) (hb : Below W.heap.size W V) : RowF V g n F := ⟨row_keep hb h.x, h.lt⟩
theorem cell (h : RowF W g n F) {k : Nat} (hk : k < n) : W.cell? ⟨g, k, none⟩ = some (.complex .f64 (F k).1 (F k).2) := by
  rw [cell_of_row W g k _ _ _ h.x]; simp [nums, hk]
theorem frozen (h : RowF W g n F) (k : Nat) : W.frozen? ⟨g, k, none⟩ = false := frozen_of_row W g k _ _ h.x
theorem set (h : RowF W g n F) {k : Nat} {z : C} (hk : k < n) (hz : ltC z) : RowF (W.setCell ⟨g, k, none⟩ (.complex .f64 z.1 z.2)) g n (putX F k z) where
  x := by
    rw [heap_setCell_same W g k _ _ _ h.x]
    congr 2
    rw [← map_put]
    simp
  lt j hj := by
    by_cases e : j = k
    · subst e; rw [putX_same]; exact hz
    · rw [putX_other e]; exact h.lt j hj
theorem other (h : RowF W g n F) {p : Addr} (hp : p.block ≠ g) (v : Value) : RowF (W.setCell p v) g n F := ⟨by rw [Below.heap_setCell _ _ _ _ (Ne.symm hp)]; exact h.x, h.lt⟩
theorem reads (h : RowF W g n F) : Reads W W.heap.size (some ⟨g, 0, none⟩) (nums ((List.range n).map F)) := fun _ =>
  ⟨_, rfl, row_lt h.x, fun j u hu => by
    rw [add0, cell_of_row W g j _ _ _ h.x]
    simpa using hu⟩
end RowF
/-- The columns that are answered, then those that are not. -/
def manyF (cols : Nat) (X : Nat → Nat → C) (j i q : Nat) : C := if q % cols < j ∨ (q % cols = j ∧ q / cols < i) then X (q % cols) (q / cols) else (0, 0)
def RetMany (n cols : Nat) (X : Nat → Nat → C) (w : World) (e : Ending) (w' : World) : Prop :=
  ∃ g, e = .returned (.tuple #[mval n cols (.slice (some ⟨g, 0, none⟩) (n * cols) (n * cols)), .int .i64 0]) ∧ RowF w' g (n * cols) (fun q => X (q % cols) (q / cols)) ∧ Below w.heap.size w w'
theorem manyF_next {cols j i q : Nat} (X : Nat → Nat → C) (hj : j < cols) : manyF cols X j (i + 1) q = putX (manyF cols X j i) (i * cols + j) (X j i) q := by
  by_cases e : q = i * cols + j
  · subst e
    have h1 : (i * cols + j) % cols = j := by rw [Nat.mul_comm, Nat.mul_add_mod, Nat.mod_eq_of_lt hj]
    have h2 : (i * cols + j) / cols = i := by rw [Nat.mul_comm, Nat.mul_add_div (by omega), Nat.div_eq_of_lt hj, Nat.add_zero]
    rw [putX_same]
    unfold manyF
    rw [h1, h2, if_pos (.inr ⟨rfl, Nat.lt_succ_self i⟩)]
  · rw [putX_other e]
    unfold manyF
    have hq := Nat.div_add_mod q cols
    have hne : ¬ (q % cols = j ∧ q / cols = i) := fun ⟨a, b⟩ => e (by rw [← hq, a, b, Nat.mul_comm])
    congr 1
    apply propext
    constructor
    · rintro (h | ⟨h1, h2⟩)
      · exact .inl h
      · exact .inr ⟨h1, by have : q / cols ≠ i := fun e => hne ⟨h1, e⟩; omega⟩
    · rintro (h | ⟨h1, h2⟩)
      · exact .inl h
      · exact .inr ⟨h1, by omega⟩
theorem manyF_col {n cols j q : Nat} (X : Nat → Nat → C) (hq : q < n * cols) : manyF cols X (j + 1) 0 q = manyF cols X j n q := by
  unfold manyF
  have h2 : q / cols < n := Nat.div_lt_of_lt_mul (by rw [Nat.mul_comm]; exact hq)
  congr 1
  apply propext
  constructor
  · rintro (h | ⟨_, h0⟩)
    · by_cases e : q % cols = j
      · exact .inr ⟨e, h2⟩
      · exact .inl (by omega)
    · exact absurd h0 (Nat.not_lt_zero _)
  · rintro (h | ⟨h1, _⟩)
    · exact .inl (by omega)
    · exact .inl (by omega)
theorem manyF_all {n cols q : Nat} (X : Nat → Nat → C) (hq : q < n * cols) : manyF cols X cols 0 q = X (q % cols) (q / cols) := by
  have hc : 0 < cols := by
    rcases Nat.eq_zero_or_pos cols with e | e
    · subst e; simp at hq
    · exact e
  unfold manyF
  rw [if_pos (.inl (Nat.mod_lt _ hc))]
theorem set3c {w : World} {b : Nat} {x0 x1 x2 u v s : Value} {T : TypeId} (h : w.heap[b]? = some (.cells #[x0, x1, x2] T)) :
    (((w.setCell ⟨b, 0, none⟩ u).setCell ⟨b, 1, none⟩ v).setCell ⟨b, 2, none⟩ s).heap[b]? = some (.cells #[u, v, s] T) := by
  have h1 := heap_setCell_same w b 0 _ T u h
  have h2 := heap_setCell_same _ b 1 _ T v h1
  have h3 := heap_setCell_same _ b 2 _ T s h2
  rw [h3]; rfl
theorem bwd_lt {Up : Nat → Nat → C} {n : Nat} {Y : Nat → C} : ∀ j, j ≤ n → ∀ i, n - j ≤ i → i < n → ltC (bwd Up n Y j i)
  | 0, _, i, a, b => by omega
  | j + 1, hj, i, a, b => by
    unfold bwd
    by_cases e : i = n - 1 - j
    · subst e; rw [putX_same]; exact ltC_div _ _
    · rw [putX_other e]; exact bwd_lt j (by omega) i (by omega) b
theorem sol_lt {Lo Up : Nat → Nat → C} {o : Nat → Nat} {b : Nat → C} {n i : Nat} (hi : i < n) : ltC (solX Lo Up o b n i) := bwd_lt n (Nat.le_refl _) i (by omega) hi
/-- What is laid for the answer: its box and its row; all else of the world W3 stays. -/
structure MoS (W3 W : World) (bo g k n cols : Nat) (F : Nat → C) : Prop where
  bel : Below W3.heap.size W3 W
  box : W.heap[bo]? = some (.cells #[.int .i64 (n : Nat), .int .i64 (cols : Nat), .slice (some ⟨g, 0, none⟩) k k] 33)
  row : RowF W g k F
  lo : W3.heap.size ≤ g
  lob : W3.heap.size ≤ bo
  ne : g ≠ bo
namespace MoS
variable {W3 W V : World} {bo g k n cols : Nat} {F : Nat → C}
theorem below (h : MoS W3 W bo g k n cols F) (hb : Below W.heap.size W V) : MoS W3 V bo g k n cols F :=
  ⟨h.bel.trans (hb.mono h.bel.size), row_keep hb h.box, h.row.below hb, h.lo, h.lob, h.ne⟩
theorem put (h : MoS W3 W bo g k n cols F) {q : Nat} {z : C} (hq : q < k) (hz : ltC z) : MoS W3 (W.setCell ⟨g, q, none⟩ (.complex .f64 z.1 z.2)) bo g k n cols (putX F q z) :=
  ⟨h.bel.setCell h.lo _, by rw [Below.heap_setCell _ _ _ _ (fun e => h.ne e.symm)]; exact h.box, h.row.set hq hz, h.lo, h.lob, h.ne⟩
theorem congr {F' : Nat → C} (h : MoS W3 W bo g k n cols F) (e : ∀ q, q < k → F' q = F q) : MoS W3 W bo g k n cols F' :=
  { h with row := ⟨by
      have : (List.range k).map F' = (List.range k).map F := List.map_congr_left fun q hq => e q (List.mem_range.1 hq)
      rw [this]; exact h.row.x, fun q hq => by rw [e q hq]; exact h.row.lt q hq⟩ }
end MoS
theorem noughts_row {W : World} {g k : Nat} (h : W.heap[g]? = some (.cells (madeCells #[.complex .f64 0 0] k) 42)) (F : Nat → C) (hF : ∀ q, F q = (0, 0)) : RowF W g k F := by
  have e : (List.range k).map F = List.replicate k (0, 0) := by
    rw [List.map_congr_left (g := fun _ => ((0, 0) : C)) (fun q _ => hF q), List.map_const', List.length_range]
  exact ⟨by rw [e, ← mk_nums]; exact h, fun q _ => by rw [hF q]; exact ⟨by decide, by decide⟩⟩
set_option maxHeartbeats 8000000 in
theorem Many_c {B b n cols M : Nat} {S : El} (Ab : Option Addr) (l : List C) (cap : Nat) (w : World) (h : Has9 w B b n S) (hf : finTo S.E n) (hp : Perm n S.o) (hn : n ≤ 64) (hc : cols ≤ 64) (hM : M = n * cols) (hl : l.length = M) (hfl : ∀ z ∈ l, pFinite z = true) (hlt : ltCs l) (hrd : Reads w w.heap.size Ab (nums l))
    (hok : ∀ j, j < cols → solOk n S ((List.range n).map fun i => ent l cols i j) = true) :
    Calls Tryz.prog 8 #[.pointer (some ⟨b, 0, none⟩), mval n cols (.slice Ab M cap)] w (RetMany n cols (fun j i => solX (lowE S) (uppE S) S.o (bOf ((List.range n).map fun i => ent l cols i j)) n i) w) := by
  obtain ⟨X, hX⟩ : ∃ X : Nat → Nat → C, X = fun j i => solX (lowE S) (uppE S) S.o (bOf ((List.range n).map fun i => ent l cols i j)) n i := ⟨_, rfl⟩
  have HX := Lib.hid hX
  rw [← hX]
  clear hX
  have hM4 : M ≤ 4096 := by rw [hM]; exact prod_small hn hc
  have hok2 : okM n cols M = true := okM_iff.2 ⟨by omega, by omega, by omega, by omega, by rw [hM, Int.natCast_mul]⟩
  have K0 := Lib.hid (show Km w w [(B, b, n, S)] [] [(Ab, nums l)] from ⟨Below.refl _ _, fun t ht => by rw [List.mem_singleton.1 ht]; exact h, fun _ h => (List.not_mem_nil h).elim, fun t ht => by rw [List.mem_singleton.1 ht]; exact hrd⟩)
  have K1 := Lib.hid ((((K0.out.new (.cells #[.int .i64 (n : Nat), .int .i64 (cols : Nat), .slice Ab M cap] 33)).addR (heap_alloc_new w _)).new zrow).addR (row_new2 w (.cells #[.int .i64 (n : Nat), .int .i64 (cols : Nat), .slice Ab M cap] 33) zrow))
  have HF := Lib.hid hf
  have HP := Lib.hid hp
  have HN := Lib.hid hn
  have HC := Lib.hid hc
  have HM := Lib.hid hM
  have HL := Lib.hid hl
  have HFl := Lib.hid hfl
  have HLt := Lib.hid hlt
  have HOk := Lib.hid hok
  have HM4 := Lib.hid hM4
  have HCh := Lib.hid (fun V => Check_c n cols Ab M cap V)
  rw [hok2] at HCh
  have HFi := Lib.hid (fun (z : C) (hz : z ∈ l) V => (show Calls Tryz.prog 31 #[.complex .f64 z.1 z.2] V (RetB true V) from by
    have h := Finite_c z.1 z.2 (hlt z hz).1 (hlt z hz).2 V
    rw [pFin_cn, hfl z hz] at h; exact h))
  clear h hf hp hn hc hM hl hfl hlt hrd hok hok2 K0 hM4
  go_enter Tryz.func8, Tryz.ntmps8
  go_wp2_with fail
  refine (open_c _ (K1.out.get 0 rfl) HF.out HN.out).mono ?_
  rintro e W1 ⟨Al, kl, Au, ku, Ao, ko, rfl, -, -, -, hb⟩
  obtain ⟨M9, hM9⟩ : ∃ M9, M9 = n * n := ⟨_, rfl⟩
  rw [← hM9]
  have K2 := Lib.hid (((K1.out.below hb).new (.cells #[.int .i64 (n : Nat), .slice Al M9 kl, .slice Au M9 ku, .slice Ao n ko] 69)).addR (heap_alloc_new W1 (.cells #[.int .i64 (n : Nat), .slice Al M9 kl, .slice Au M9 ku, .slice Ao n ko] 69)))
  obtain ⟨x0, x1, x2, -⟩ := box3 (K2.out.row 2 rfl)
  clear hb hM9 K1
  go_wp2_with fail
  refine (HCh.out _).mono ?_
  rintro e W2 ⟨rfl, hb⟩
  have K3 := Lib.hid (K2.out.below hb)
  clear hb K2 x0 x1 x2
  obtain ⟨x0, x1, x2, -⟩ := box3 (K3.out.row 2 rfl)
  obtain ⟨y0, -, -, -, -⟩ := box4 (K3.out.row 0 rfl)
  have hmb : (M : Int) ≤ 4096 := by have := HM4.out; omega
  go_wp2
  go_loopw [40] (fun iv wr => ∃ k d : Nat, k ≤ M ∧ iv = .int .i64 (k : Nat) ∧ wr = W2.drewN d) (fun iv _ => M - (intOf iv).toNat)
  case atStart => exact ⟨0, 0, Nat.zero_le _, rfl, rfl⟩
  case round =>
    obtain ⟨k, d, hk, rfl, rfl⟩ := hrel
    have hkb : (k : Int) + 1 ≤ 4097 := by have := HM4.out; omega
    by_cases hlt : k < M
    · have hlti : (k : Int) < (M : Int) := Int.ofNat_lt.2 hlt
      obtain ⟨z, hz⟩ := some_of_lt (l := l) (k := k) (by rw [HL.out]; exact hlt)
      have hv : (nums l)[k]? = some (.complex .f64 z.1 z.2) := by simp [nums, hz]
      obtain ⟨ad, rfl, -, hcell⟩ := (K3.out.rd 0 rfl).at_ hv
      have HFz := Lib.hid (HFi.out z (List.mem_of_getElem? hz))
      clear hz hv
      go_wp2_with fail
      refine (HFz.out _).mono ?_
      rintro e w' ⟨d2, rfl, rfl⟩
      go_wp2
      go_roundw
      case rel => exact ⟨k + 1, d + d2, hlt, by go_num, rfl⟩
      case measure => simp [intOf]; omega
    · have e : k = M := by omega
      subst e
      clear hkb
      obtain ⟨W3, hW3⟩ : ∃ W3, W3 = W2.drewN d := ⟨_, rfl⟩
      rw [← hW3]
      have K4 := Lib.hid (show Km w W3 [(B, b, n, S)] [(W1.heap.size, .cells #[.int .i64 (n : Nat), .slice Al M9 kl, .slice Au M9 ku, .slice Ao n ko] 69), (w.heap.size + 1, zrow), (w.heap.size, .cells #[.int .i64 (n : Nat), .int .i64 (cols : Nat), .slice Ab k cap] 33)] [(Ab, nums l)] from by rw [hW3]; exact K3.out.below (below_drewN (Below.refl _ _) d))
      clear hW3 x0 x1 x2 y0
      obtain ⟨x0, x1, x2, -⟩ := box3 (K4.out.row 2 rfl)
      obtain ⟨y0, -, -, -, -⟩ := box4 (K4.out.row 0 rfl)
      have hmk := run_make_row' (P := Tryz.prog) 27 42 (.complex .f64 0 0) 16 Tryz.underlying27 infoNum rfl .i64 .i64 k (by have := HM4.out; omega) (by have := HM4.out; omega)
      have al : ∀ {p : Addr} {v : Value}, W3.cell? p = some v → (∀ o, (W3.alloc o).cell? p = some v) ∧ ∀ o o', ((W3.alloc o).alloc o').cell? p = some v := fun h => ⟨fun o => ((below_new W3 o).cell (block_lt_of_cell h)).trans h, fun o o' => (((below_new W3 o).new (Nat.le_refl _) o').cell (block_lt_of_cell h)).trans h⟩
      obtain ⟨x0a, x0b⟩ := al x0
      obtain ⟨x1a, x1b⟩ := al x1
      obtain ⟨x2a, x2b⟩ := al x2
      obtain ⟨y0a, y0b⟩ := al y0
      clear al
      go_upto_region 12 with fail
      go_cut [10] (fun s10 wx => ∃ g bo : Nat, s10 = .pointer (some ⟨bo, 0, none⟩) ∧ MoS W3 wx bo g k n cols (manyF cols X 0 0))
      case first =>
        go_region
        all_goals
          go_wp2_with fail
          go_meet
        · refine ⟨W3.heap.size, W3.heap.size + 1, rfl, ?_⟩
          exact { bel := ((below_new W3 _).new (Nat.le_refl _) _).drew
                  box := row_new2 _ _ _
                  row := (noughts_row (row_alloc (heap_alloc_new W3 _)) (manyF cols X 0 0) (fun q => by unfold manyF; rw [if_neg (fun h => by rcases h with h | ⟨_, h⟩ <;> exact absurd h (Nat.not_lt_zero _))])).drew
                  lo := Nat.le_refl _
                  lob := Nat.le_succ _
                  ne := by omega }
        · refine ⟨W3.heap.size + 1, W3.heap.size, rfl, ?_⟩
          exact { bel := ((below_new W3 _).new (Nat.le_refl _) _).drew
                  box := row_alloc (heap_alloc_new W3 _)
                  row := (noughts_row (row_new2 _ _ _) (manyF cols X 0 0) (fun q => by unfold manyF; rw [if_neg (fun h => by rcases h with h | ⟨_, h⟩ <;> exact absurd h (Nat.not_lt_zero _))])).drew
                  lo := Nat.le_succ _
                  lob := Nat.le_refl _
                  ne := by omega }
      case rest =>
        obtain ⟨g, bo, rfl, hmo⟩ := hcut
        rename World => W4
        have HMo := Lib.hid hmo
        obtain ⟨t0, t1, t2, -⟩ := box3 (row_keep hmo.bel (K4.out.row 2 rfl))
        clear hmo x0a x0b x1a x1b x2a x2b y0a y0b x0 x1 x2 y0 hmk
        have hcb : (cols : Int) ≤ 64 := by have := HC.out; omega
        go_wp2
        go_loopw [60] (fun jv wr => ∃ j : Nat, j ≤ cols ∧ jv = .int .i64 (j : Nat) ∧ MoS W3 wr bo g k n cols (manyF cols X j 0)) (fun jv _ => cols - (intOf jv).toNat)
        case atStart => exact ⟨0, Nat.zero_le _, rfl, HMo.out⟩
        case round =>
          clear HMo t0 t1 t2
          obtain ⟨j, hj, rfl, hmo⟩ := hrel
          rename World => wj
          have HMo := Lib.hid hmo
          have Kj := Lib.hid (K4.out.below hmo.bel)
          have hjb : (j : Int) + 1 ≤ 65 := by omega
          obtain ⟨t0, t1, t2, -⟩ := box3 (Kj.out.row 2 rfl)
          clear hmo
          by_cases hlt : j < cols
          · have hlti : (j : Int) < (cols : Int) := Int.ofNat_lt.2 hlt
            have hcol := Col_c n cols Ab l cap j wj HN.out HC.out (by rw [HL.out, HM.out]) hlt (Kj.out.rd 0 rfl) HLt.out
            rw [HL.out] at hcol
            obtain ⟨cl, hcl⟩ : ∃ cl, cl = (List.range n).map fun i => ent l cols i j := ⟨_, rfl⟩
            rw [← hcl] at hcol
            have hclf : ∀ z ∈ cl, pFinite z = true := fun z hz => by
              rw [hcl] at hz
              obtain ⟨i, hi, rfl⟩ := List.mem_map.1 hz
              have hm := List.mem_of_getElem? (at_ok (l := l) (rows := n) (cols := cols) (by rw [HL.out, HM.out]) (List.mem_range.1 hi) hlt)
              unfold ent
              rw [fin_cn (HFl.out _ hm)]
              exact HFl.out _ hm
            have hcll : cl.length = n := by rw [hcl]; simp
            have hok := HOk.out j hlt
            rw [← hcl] at hok
            have HXj := Lib.hid (show ∀ i, X j i = solX (lowE S) (uppE S) S.o (bOf cl) n i from fun i => by rw [HX.out, hcl])
            have HCol := Lib.hid hcol
            have HClf := Lib.hid hclf
            have HCll := Lib.hid hcll
            have HOkj := Lib.hid hok
            clear hcol hclf hcll hok hcl
            go_wp2_with fail
            refine HCol.out.mono ?_
            rintro e W5 ⟨s, zs, rfl, hz, hlz, hown, hb⟩
            have ez : zs = cl := exact_of hz HClf.out
            subst ez
            obtain ⟨Ac, kc, rfl, hrc, -, -⟩ := own_reads hown
            have K5 := Lib.hid ((Kj.out.below hb).addL hrc)
            have HMo5 := Lib.hid (HMo.out.below hb)
            have HSv := Solve_run Ac zs kc W5 (K5.out.get 0 rfl) HF.out HP.out HN.out HCll.out HClf.out hlz hrc
            rw [HOkj.out, if_pos rfl, if_pos rfl] at HSv
            have HS := Lib.hid HSv
            clear hz hlz hown hrc hb HSv t0 t1 t2 HCol
            go_wp2_with fail
            refine HS.out.mono ?_
            rintro e W6 hr
            obtain ⟨s6, rfl, hown6, hb⟩ := hr
            have hsl : (solL n S zs).length = n := by simp [solL]
            rw [hsl] at hown6
            obtain ⟨As, ks, rfl, -, -, -⟩ := own_reads hown6
            have HOw6 := Lib.hid hown6
            have HMo6 := Lib.hid (HMo5.out.below hb)
            have hg5 := row_lt HMo5.out.row.x
            have HG5 := Lib.hid hg5
            clear hown6 hb hsl K5 HMo5 HS Kj hg5
            have hnb : (n : Int) ≤ 64 := by have := HN.out; omega
            go_wp2
            go_loopw [81] (fun iv wr => ∃ i : Nat, i ≤ n ∧ iv = .int .i64 (i : Nat) ∧ MoS W3 wr bo g k n cols (manyF cols X j i) ∧ wr.ownsRow W5.heap.size 42 1 (.slice As n ks) n (nums (solL n S zs))) (fun iv _ => n - (intOf iv).toNat)
            case atStart => exact ⟨0, Nat.zero_le _, rfl, HMo6.out, HOw6.out⟩
            case round =>
              obtain ⟨i, hi, rfl, hmo, hrs⟩ := hrel
              rename World => wi
              have HMi := Lib.hid hmo
              have HRs := Lib.hid hrs
              have hib : (i : Int) + 1 ≤ 65 := by omega
              obtain ⟨-, t1, -, -⟩ := box3 (row_keep hmo.bel (K4.out.row 2 rfl))
              obtain ⟨-, -, u2, -⟩ := box3 hmo.box
              clear hmo hrs
              by_cases hlt2 : i < n
              · have hlti2 : (i : Int) < (n : Int) := Int.ofNat_lt.2 hlt2
                obtain ⟨z, hz⟩ := some_of_lt (l := solL n S zs) (k := i) (by simp [solL]; exact hlt2)
                have hv : (nums (solL n S zs))[i]? = some (.complex .f64 z.1 z.2) := by simp [nums, hz]
                have hrd := Reads.of_own HRs.out
                have HOn := Lib.hid (ownsRow_setCell_below HRs.out (a := ⟨g, i * cols + j, none⟩) HG5.out (.complex .f64 z.1 z.2))
                obtain ⟨ad, rfl, -, hcell⟩ := hrd.at_ hv
                clear hrd
                have hzx : z = X j i := by
                  unfold solL at hz
                  rw [List.getElem?_map, List.getElem?_range hlt2] at hz
                  rw [HXj.out i]; exact (Option.some.inj hz).symm
                obtain ⟨P1, hP1⟩ : ∃ P, P = i * cols := ⟨_, rfl⟩
                have hi1 : (i + 1) * cols ≤ n * cols := Nat.mul_le_mul_right _ hlt2
                rw [Nat.add_mul, Nat.one_mul, ← hP1, ← HM.out] at hi1
                obtain ⟨q, hq⟩ : ∃ q, q = P1 + j := ⟨_, rfl⟩
                have hqk : q < k := by omega
                have hqi : (q : Int) < (k : Int) := Int.ofNat_lt.2 hqk
                have hk4 := HM4.out
                have m1 : (i : Int) * (cols : Int) = (P1 : Int) := by rw [hP1, Int.natCast_mul]
                have m2 : (P1 : Int) + (j : Int) = (q : Int) := by omega
                have b1 : (P1 : Int) ≤ 4096 := by omega
                have b2 : (q : Int) ≤ 4096 := by omega
                have cq := HMi.out.row.cell hqk
                have fq := HMi.out.row.frozen q
                have n1 : decide ((q : Int) < 0) = false := by simp
                have hzl : ltC z := by rw [hzx, HXj.out i]; exact sol_lt hlt2
                have HNx := Lib.hid ((HMi.out.put hqk hzl).congr (F' := manyF cols X j (i + 1)) (fun p _ => by rw [manyF_next X hlt, ← hP1, ← hq, hzx]))
                rw [← hP1, ← hq] at HOn
                clear hz hv hzx hP1 hi1 hq hqk hk4 hzl
                go_wp2
                go_roundw
                case rel => exact ⟨i + 1, hlt2, by go_num, HNx.out, HOn.out⟩
                case measure => simp [intOf]; omega
              · have e : i = n := by omega
                subst e
                clear t1 u2
                go_wp2
                go_roundw
                case rel => exact ⟨j + 1, hlt, by go_num, HMi.out.congr (fun q hq => manyF_col X (by rw [← HM.out]; exact hq))⟩
                case measure => simp [intOf]; omega
          · have e : j = cols := by omega
            subst e
            clear t0 t1 t2
            obtain ⟨u0, u1, u2, -⟩ := box3 HMo.out.box
            have hrow := Kj.out.row 1 rfl
            obtain ⟨z0, z1, z2, zf⟩ := box3 hrow
            have zf0 := zf 0
            have zf1 := zf 1
            have zf2 := zf 2
            have hgw : g ≠ w.heap.size + 1 := fun e => by
              have h1 := HMo.out.lo
              have h2 := row_lt (K4.out.row 1 rfl)
              omega
            have HGw := Lib.hid hgw
            clear zf hrow hgw
            go_wp2
            obtain ⟨q0, q1, q2, -⟩ := box3 (set3c (u := .int .i64 (n : Nat)) (v := .int .i64 (j : Nat)) (s := .slice (some ⟨g, 0, none⟩) k k) (Kj.out.row 1 rfl))
            refine bodyPost_ret (v := .tuple #[mval n j (.slice (some ⟨g, 0, none⟩) k k), .int .i64 0]) (by simp [results, Tryz.results8, go_sem, q0, q1, q2]) rfl ?_
            refine ⟨g, by rw [HM.out], ?_, ?_⟩
            · rw [← HM.out]
              have h := (HMo.out.congr (F' := fun q => X (q % j) (q / j)) (fun q hq => (manyF_all X (by rw [← HM.out]; exact hq)).symm)).row
              exact ((h.other (p := ⟨w.heap.size + 1, 0, none⟩) (fun e => HGw.out e.symm) _).other (p := ⟨w.heap.size + 1, 1, none⟩) (fun e => HGw.out e.symm) _).other (p := ⟨w.heap.size + 1, 2, none⟩) (fun e => HGw.out e.symm) _
            · exact ((Kj.out.bel.setCell (Nat.le_succ _) _).setCell (Nat.le_succ _) _).setCell (Nat.le_succ _) _
end Go.Proofs.YtglmmidhkpomgaaGreat
