/- Layer 12: the inverse of a matrix that is eliminated (inverse.Of). -/
import Derived.Test.YtajdfbjjgjpicaaIV2
import Derived.Test.YtajdfbjjgjpicaaLMr
namespace Go.Proofs.Ytajdfbjjgjpicaa
open Go.RowKit Fl Ieee
set_option maxRecDepth 20000
attribute [local go_sem] run_store_float run_store_complex
/-- The frame behind lower.Of. -/
structure InvF (w W1 W : World) (nb B b n : Nat) (S : El) : Prop where
  bel : Below w.heap.size w W
  r : W.heap[w.heap.size + 1]? = some zrow
  f : W.heap[w.heap.size + 2]? = some (.cells #[.int .i64 0, .int .i64 0] 43)
  l : W.heap[W1.heap.size]? = some (.cells #[.pointer (some ⟨b, 0, none⟩)] 75)
  nc : W.heap[nb]? = some (.cells #[.int .i64 (n : Nat)] 3)
  has : Has9 W1 B b n S
  keep : ∀ j, B ≤ j → j < W1.heap.size → W.heap[j]? = W1.heap[j]?
  size : w.heap.size + 3 ≤ W1.heap.size
  nlt : W1.heap.size < nb
/-- The inverse that is being written. -/
structure InvS (w W1 W : World) (nb mb g B b n : Nat) (S : El) (zs : Nat → C) : Prop extends InvF w W1 W nb B b n S where
  box : W.heap[mb]? = some (.cells #[.int .i64 (n : Nat), .int .i64 (n : Nat), .slice (some ⟨g, 0, none⟩) (n * n) (n * n)] 28)
  row : W.heap[g]? = some (.cells (nums ((List.range (n * n)).map zs)).toArray 53)
  mg : mb ≠ g
  gn : nb < g
  mn : nb < mb
theorem InvF.below {w W1 W V : World} {nb B b n : Nat} {S : El} (h : InvF w W1 W nb B b n S) (hb : Below W.heap.size W V) : InvF w W1 V nb B b n S where
  bel := h.bel.trans (hb.mono h.bel.size)
  r := row_keep hb h.r
  f := row_keep hb h.f
  l := row_keep hb h.l
  nc := row_keep hb h.nc
  has := h.has
  keep j h1 h2 := by
    have h3 := row_lt h.l
    rw [hb.block j (by omega)]; exact h.keep j h1 h2
  size := h.size
  nlt := h.nlt
theorem InvF.has9 {w W1 W : World} {nb B b n : Nat} {S : El} (h : InvF w W1 W nb B b n S) : Has9 W B b n S := h.has.keep h.keep
theorem InvF.other {w W1 W : World} {nb B b n : Nat} {S : El} (h : InvF w W1 W nb B b n S) {a : Addr} (ha : nb < a.block) (v : Value) : InvF w W1 (W.setCell a v) nb B b n S where
  bel := h.bel.setCell (by have := h.size; have := h.nlt; omega) _
  r := by rw [Below.heap_setCell _ _ _ _ (by have := h.size; have := h.nlt; omega)]; exact h.r
  f := by rw [Below.heap_setCell _ _ _ _ (by have := h.size; have := h.nlt; omega)]; exact h.f
  l := by rw [Below.heap_setCell _ _ _ _ (by have := h.nlt; omega)]; exact h.l
  nc := by rw [Below.heap_setCell _ _ _ _ (by omega)]; exact h.nc
  has := h.has
  keep j h1 h2 := by rw [Below.heap_setCell _ _ _ _ (by have := h.nlt; omega)]; exact h.keep j h1 h2
  size := h.size
  nlt := h.nlt
namespace InvS
variable {w W1 W V : World} {nb mb g B b n : Nat} {S : El} {zs : Nat → C}
theorem below (h : InvS w W1 W nb mb g B b n S zs) (hb : Below W.heap.size W V) : InvS w W1 V nb mb g B b n S zs :=
  { h.toInvF.below hb with
    box := row_keep hb h.box
    row := row_keep hb h.row
    mg := h.mg
    gn := h.gn
    mn := h.mn }
theorem put (h : InvS w W1 W nb mb g B b n S zs) (p : Nat) (z : C) : InvS w W1 (W.setCell ⟨g, p, none⟩ (.complex .f64 z.1 z.2)) nb mb g B b n S (putX zs p z) :=
  { h.toInvF.other (a := ⟨g, p, none⟩) h.gn _ with
    box := by rw [Below.heap_setCell _ _ _ _ (by show mb ≠ g; exact h.mg)]; exact h.box
    row := by
      rw [heap_setCell_same W g p _ _ _ h.row]
      congr 2
      rw [← map_put]
      simp
    mg := h.mg
    gn := h.gn
    mn := h.mn }
theorem frozenX (h : InvS w W1 W nb mb g B b n S zs) (i : Nat) : W.frozen? ⟨g, i, none⟩ = false := frozen_of_row W g i _ _ h.row
theorem cellX (h : InvS w W1 W nb mb g B b n S zs) {i : Nat} (hi : i < n * n) : W.cell? ⟨g, i, none⟩ = some (.complex .f64 (zs i).1 (zs i).2) := by
  rw [cell_of_row W g i _ _ _ h.row]
  simp [nums, hi]
end InvS
theorem row1 {w : World} {b : Nat} {x : Value} {t : TypeId} (hx : w.heap[b]? = some (.cells #[x] t)) : w.cell? ⟨b, 0, none⟩ = some x := by
  rw [cell_of_row w b 0 _ _ _ hx]; rfl
theorem row_new3 (Z : World) (a b c : Obj) : (((Z.alloc a).alloc b).alloc c).heap[Z.heap.size + 1 + 1]? = some c := by
  have e : Z.heap.size + 1 + 1 = ((Z.alloc a).alloc b).heap.size := by simp
  rw [e]; exact heap_alloc_new _ _
theorem wrap64I {x : Int} {y : Nat} (e : x = (y : Int)) (h : y ≤ 9223372036854775807) : wrap64 x = (y : Int) := by
  rw [e]; unfold wrap64; omega
theorem InvS.own {w W1 W : World} {nb mb g B b n : Nat} {S : El} {zs : Nat → C} {E : Nat → Nat → C} (h : InvS w W1 W nb mb g B b n S zs) (hz : ∀ i j, i < n → j < n → zs (i * n + j) = E i j) (hn : n ≤ 64) :
    W.ownsRow w.heap.size 53 1 (.slice (some ⟨g, 0, none⟩) (n * n) (n * n)) (n * n) (nums (entries n E (n * n))) := by
  have e : (List.range (n * n)).map zs = entries n E (n * n) := List.map_congr_left fun p hp => by
    have hp := List.mem_range.1 hp
    have hn0 : 0 < n := Nat.pos_of_ne_zero fun h0 => by subst h0; simp at hp
    have h1 : p / n < n := Nat.div_lt_of_lt_mul hp
    have h2 := hz (p / n) (p % n) h1 (Nat.mod_lt _ hn0)
    rw [Nat.div_add_mod'] at h2
    exact h2
  have h4 : n * n ≤ 4096 := prod_small hn hn
  refine ⟨by simp [nums, entries], .inr ⟨g, n * n, _, rfl, ?_, h.row, Nat.le_refl _, by unfold maxLen; omega, by simp [nums], ?_⟩⟩
  · have := h.size; have := h.nlt; have := h.gn; omega
  · rw [e]
    show ((nums (entries n E (n * n))).take (n * n * 1)) = _
    exact List.take_of_length_le (by simp [nums, entries])
theorem nums_zero (n : Nat) : nums ((List.range n).map fun _ => ((0, 0) : C)) = nums (List.replicate n (0, 0)) := by rw [List.map_const', List.length_range]
theorem InvF.startA {w W1 X : World} {nb B b n M : Nat} {S : El} (h : InvF w W1 X nb B b n S) (hM : M = n * n) :
    InvS w W1 ((X.alloc (.cells (madeCells #[.complex .f64 0 0] M) 53)).alloc (.cells #[.int .i64 (n : Nat), .int .i64 (n : Nat), .slice (some ⟨X.heap.size, 0, none⟩) M M] 28)).drew nb (X.heap.size + 1) X.heap.size B b n S (fun _ => (0, 0)) := by
  subst hM
  have hn := row_lt h.nc
  have h1 := (h.below (below_new X (.cells (madeCells #[.complex .f64 0 0] (n * n)) 53))).below (below_new _ (.cells #[.int .i64 (n : Nat), .int .i64 (n : Nat), .slice (some ⟨X.heap.size, 0, none⟩) (n * n) (n * n)] 28))
  exact
    { h1.below ((Below.refl _ _).drew) with
      box := row_new2 X _ _
      row := by
        rw [nums_zero, ← mk_nums]
        exact row_alloc (heap_alloc_new X _)
      mg := by omega
      gn := hn
      mn := by omega }
theorem InvF.startB {w W1 X : World} {nb B b n M : Nat} {S : El} (h : InvF w W1 X nb B b n S) (hM : M = n * n) :
    InvS w W1 ((X.alloc (.cells #[.int .i64 (n : Nat), .int .i64 (n : Nat), .slice (some ⟨X.heap.size + 1, 0, none⟩) M M] 28)).alloc (.cells (madeCells #[.complex .f64 0 0] M) 53)).drew nb X.heap.size (X.heap.size + 1) B b n S (fun _ => (0, 0)) := by
  subst hM
  have hn := row_lt h.nc
  have h1 := (h.below (below_new X (.cells #[.int .i64 (n : Nat), .int .i64 (n : Nat), .slice (some ⟨X.heap.size + 1, 0, none⟩) (n * n) (n * n)] 28))).below (below_new _ (.cells (madeCells #[.complex .f64 0 0] (n * n)) 53))
  exact
    { h1.below ((Below.refl _ _).drew) with
      box := row_alloc (heap_alloc_new X _)
      row := by
        rw [nums_zero, ← mk_nums]
        exact row_new2 X _ _
      mg := by omega
      gn := by omega
      mn := hn }
/-- The end: the result's five cells. -/
theorem put32n {w : World} {r f : Nat} {x0 x1 x2 y0 y1 u v s p q : Value} {T T' : TypeId} (hr : w.heap[r]? = some (.cells #[x0, x1, x2] T)) (hf : w.heap[f]? = some (.cells #[y0, y1] T')) (hne : r ≠ f) :
    ((put3 w r u v s).setCell ⟨f, 0, none⟩ p |>.setCell ⟨f, 1, none⟩ q).cell? ⟨r, 0, none⟩ = some u ∧ ((put3 w r u v s).setCell ⟨f, 0, none⟩ p |>.setCell ⟨f, 1, none⟩ q).cell? ⟨r, 1, none⟩ = some v ∧ ((put3 w r u v s).setCell ⟨f, 0, none⟩ p |>.setCell ⟨f, 1, none⟩ q).cell? ⟨r, 2, none⟩ = some s ∧
      ((put3 w r u v s).setCell ⟨f, 0, none⟩ p |>.setCell ⟨f, 1, none⟩ q).cell? ⟨f, 0, none⟩ = some p ∧ ((put3 w r u v s).setCell ⟨f, 0, none⟩ p |>.setCell ⟨f, 1, none⟩ q).cell? ⟨f, 1, none⟩ = some q := by
  obtain ⟨h1, h2⟩ := set32 (u := u) (v := v) (s := s) (p := p) (q := q) hr hf hne
  generalize (((put3 w r u v s).setCell ⟨f, 0, none⟩ p).setCell ⟨f, 1, none⟩ q) = X at h1 h2 ⊢
  obtain ⟨a, b, c, -⟩ := box3 h1
  obtain ⟨d, e, -⟩ := row2 h2
  exact ⟨a, b, c, d, e⟩
theorem InvF.end_ {w W1 W : World} {nb B b n : Nat} {S : El} (h : InvF w W1 W nb B b n S) (u v s p q : Value) :
    Below w.heap.size w ((((((W.setCell ⟨w.heap.size + 1, 0, none⟩ u).setCell ⟨w.heap.size + 1, 1, none⟩ v).setCell ⟨w.heap.size + 1, 2, none⟩ s).setCell ⟨w.heap.size + 1 + 1, 0, none⟩ p).setCell ⟨w.heap.size + 1 + 1, 1, none⟩ q)) :=
  ((((h.bel.setCell (Nat.le_succ _) _).setCell (Nat.le_succ _) _).setCell (Nat.le_succ _) _).setCell (by show w.heap.size ≤ w.heap.size + 1 + 1; omega) _).setCell (by show w.heap.size ≤ w.heap.size + 1 + 1; omega) _
theorem InvS.cells {w W1 W : World} {nb mb g B b n : Nat} {S : El} {zs : Nat → C} (h : InvS w W1 W nb mb g B b n S zs) :
    W.cell? ⟨w.heap.size + 1, 0, none⟩ = some (.int .i64 0) ∧ W.cell? ⟨w.heap.size + 1, 1, none⟩ = some (.int .i64 0) ∧ W.cell? ⟨w.heap.size + 1, 2, none⟩ = some (.slice none 0 0) ∧ (∀ j, W.frozen? ⟨w.heap.size + 1, j, none⟩ = false) ∧
      W.cell? ⟨w.heap.size + 1 + 1, 0, none⟩ = some (.int .i64 0) ∧ W.cell? ⟨w.heap.size + 1 + 1, 1, none⟩ = some (.int .i64 0) ∧ (∀ j, W.frozen? ⟨w.heap.size + 1 + 1, j, none⟩ = false) := by
  obtain ⟨a, b, c, d⟩ := box3 h.r
  obtain ⟨x, y, z⟩ := row2 h.f
  exact ⟨a, b, c, d, x, y, z⟩
/-- What a column's call tells. -/
theorem RetSol.ok {er : Int} {X : List C} {w w' : World} {e : Ending} {n : Nat} (h : RetSol er X w e w') (hX : X.length = n) : ∃ A c, e = .returned (.tuple #[.slice A n c, .int .i64 er]) ∧ w'.ownsRow w.heap.size 53 1 (.slice A n c) n (nums X) ∧ Below w.heap.size w w' := by
  obtain ⟨s, rfl, ho, hb⟩ := h
  obtain ⟨A, m, c, rfl, rfl⟩ := slice_of_own ho
  subst hX
  exact ⟨A, c, rfl, ho, hb⟩
theorem colL_len (n : Nat) (S : El) (j : Nat) : (colL n S j).length = n := by simp [colL, solL]
theorem colL_get {n j i : Nat} {S : El} (hi : i < n) : (nums (colL n S j))[i]? = some (.complex .f64 (invE n S i j).1 (invE n S i j).2) := by
  simp [nums, colL, solL, hi, invE]
set_option maxHeartbeats 16000000 in
theorem inv_good (n : Nat) (A : Option Addr) (l : List C) (cap : Nat) (w : World) (hn : n ≤ 64) (hl : l.length = n * n) (hcap : l.length ≤ cap) (hrd : Reads w w.heap.size A (nums l)) (hlt : ltCs l) (hF : (ofF n n l).1 = 0) :
    Calls Try.prog 18 #[mval n n (.slice A l.length cap)] w (RetI (if invJ n (ofS n l) < n then (6, (invJ n (ofS n l) : Int)) else (0, 0)) n (invE n (ofS n l)) w) := by
  obtain ⟨hfin, hf, h0⟩ := of_fin hn hl hF
  have hperm : Perm n (ofS n l).o := of_perm
  have hfinE : finTo (ofS n l).E n := elRun_fin (matE_fin hl hfin) n (Nat.le_refl _)
  obtain ⟨S, hS⟩ : ∃ S, S = ofS n l := ⟨_, rfl⟩
  obtain ⟨M, hM⟩ : ∃ M, M = n * n := ⟨_, rfl⟩
  have hM4 : M ≤ 4096 := by rw [hM]; exact prod_small hn hn
  have hLM : l.length = M := hl.trans hM.symm
  obtain ⟨Wf, hWf, hm, hr, hff, hbw, hsz⟩ := frameI w n n (.slice A l.length cap)
  have HOf := Lib.hid (show Calls Try.prog 47 #[mval n n (.slice A l.length cap)] Wf fun e w' => ∃ b, e = .returned (.tuple #[.pointer (some ⟨b, 0, none⟩), .agg #[.int .i64 0, .int .i64 0]]) ∧ Has9 w' Wf.heap.size b n S ∧ Below Wf.heap.size Wf w' from
    (Of_c n n A l cap Wf hcap ((hrd.below hbw).more hbw.size) hlt).mono fun e w' h => by rw [hS]; exact h.ok hf)
  rw [← hS] at hperm hfinE ⊢
  have HSize := Lib.hid (fun (B b : Nat) (V : World) (h : Has9 V B b n S) => Size_c V h)
  have HCol := Lib.hid (fun (B b nb lb j : Nat) (V : World) (h : Has9 V B b n S) (hj : j < n) (h1 : V.cell? ⟨nb, 0, none⟩ = some (.int .i64 (n : Nat))) (h2 : V.cell? ⟨lb, 0, none⟩ = some (.pointer (some ⟨b, 0, none⟩))) (hlb : lb < V.heap.size) =>
    column_c j V h hfinE hperm hn hj h1 h2 hlb)
  have HR := Lib.hid hr
  have HFf := Lib.hid hff
  have HBw := Lib.hid hbw
  have HSz := Lib.hid hsz
  have HM := Lib.hid hM
  have HM4 := Lib.hid hM4
  have HN := Lib.hid hn
  rw [hWf, hLM] at HOf
  rw [hLM]
  obtain ⟨ff, hff2⟩ : ∃ ff : Int × Int, ff = if invJ n S < n then (6, (invJ n S : Int)) else (0, 0) := ⟨_, rfl⟩
  rw [← hff2]
  have HFF := Lib.hid hff2
  clear hff2
  rw [hLM] at hWf
  have HWf := Lib.hid hWf
  have hmk := run_make_row' (P := Try.prog) 25 53 (.complex .f64 0 0) 16 Try.underlying25 infoNum rfl .i64 .i64 M (by omega) (by omega)
  have hmf : ∀ (fn : Fn) (first cap : Array Value) (W : World), (Instr.makeFunc fn first cap).run Try.prog W = .ok (.func fn first cap) W := fun _ _ _ _ => rfl
  have hmw : IntKind.i64.wrap ((n : Int) * (n : Int)) = (M : Int) := wrapI (by rw [hM, Int.natCast_mul]) (by omega)
  have hmw2 : wrap64 ((n : Int) * (n : Int)) = (M : Int) := wrap64I (by rw [hM, Int.natCast_mul]) (by omega)
  clear hcap hrd hlt hF hm hr hff hbw hsz hl hf h0 hfin hperm hfinE hS hLM hM hM4 hn hWf
  go_enter Try.func18, Try.ntmps18
  go_wp2_with fail
  refine HOf.out.mono ?_
  rintro e W1 ⟨b, rfl, h9, hb⟩
  rw [← HWf.out] at hb h9
  have hz : ∀ o, (W1.alloc o).heap.size = W1.heap.size + 1 := fun o => by simp
  have hIF := Lib.hid (fun (nb : Nat) (V : World) (hV : Below (W1.heap.size + 2) ((W1.alloc (.cells #[.pointer (some ⟨b, 0, none⟩)] 75)).alloc (.cells #[.int .i64 0, .int .i64 0] 43)) V) (hnb : V.heap[nb]? = some (.cells #[.int .i64 (n : Nat)] 3)) (hlt : W1.heap.size < nb) =>
    (show InvF w W1 V nb Wf.heap.size b n S from by
      have hV' : Below ((W1.alloc (.cells #[.pointer (some ⟨b, 0, none⟩)] 75)).alloc (.cells #[.int .i64 0, .int .i64 0] 43)).heap.size ((W1.alloc (.cells #[.pointer (some ⟨b, 0, none⟩)] 75)).alloc (.cells #[.int .i64 0, .int .i64 0] 43)) V := hV.mono (by simp)
      have hb2 := (below_new W1 (.cells #[.pointer (some ⟨b, 0, none⟩)] 75)).new (Nat.le_refl _) (.cells #[.int .i64 0, .int .i64 0] 43)
      have hs1 := hb.size
      have hs2 := HSz.out
      exact
        { bel := HBw.out.trans ((hb.trans ((hb2.mono hs1).trans (hV'.mono (by simp; omega)))).mono HBw.out.size)
          r := row_keep hV' (row_keep hb2 (row_keep hb HR.out))
          f := row_keep hV' (row_keep hb2 (row_keep hb HFf.out))
          l := row_keep hV' (row_alloc (heap_alloc_new W1 _))
          nc := hnb
          has := h9
          keep := fun j h1 h2 => by rw [hV'.block j (by simp; omega), hb2.block j h2]
          size := by omega
          nlt := hlt }))
  have h9' := (h9.below (below_new W1 (.cells #[.pointer (some ⟨b, 0, none⟩)] 75))).below (below_new _ (.cells #[.int .i64 0, .int .i64 0] 43))
  have H9 := Lib.hid h9'
  have HZ1 := Lib.hid hb.size
  clear hb h9 h9' hz
  go_wp2_with fail
  refine (HSize.out _ _ _ H9.out).mono ?_
  rintro e V ⟨rfl, rfl⟩
  go_upto_region 6 with fail
  go_cut [8] (fun s8 wx => ∃ mb g, s8 = .pointer (some ⟨mb, 0, none⟩) ∧ InvS w W1 wx (W1.heap.size + 1 + 1) mb g Wf.heap.size b n S (fun _ => (0, 0)))
  case first =>
    go_region
    all_goals go_wp2
    all_goals go_meet
    all_goals
      have hsz3 : (((W1.alloc (.cells #[.pointer (some ⟨b, 0, none⟩)] 75)).alloc (.cells #[.int .i64 0, .int .i64 0] 43)).alloc (.cells #[.int .i64 (n : Nat)] 3)).heap.size = W1.heap.size + 1 + 1 + 1 := by simp
    · have hI := hIF.out (W1.heap.size + 1 + 1) (((W1.alloc (.cells #[.pointer (some ⟨b, 0, none⟩)] 75)).alloc (.cells #[.int .i64 0, .int .i64 0] 43)).alloc (.cells #[.int .i64 (n : Nat)] 3)) ((Below.refl _ _).new (by simp) _) (row_new3 _ _ _ _) (by omega)
      have h := hI.startA HM.out
      rw [hsz3] at h
      exact ⟨_, _, rfl, h⟩
    · have hI := hIF.out (W1.heap.size + 1 + 1) (((W1.alloc (.cells #[.pointer (some ⟨b, 0, none⟩)] 75)).alloc (.cells #[.int .i64 0, .int .i64 0] 43)).alloc (.cells #[.int .i64 (n : Nat)] 3)) ((Below.refl _ _).new (by simp) _) (row_new3 _ _ _ _) (by omega)
      have h := hI.startB HM.out
      rw [hsz3] at h
      exact ⟨_, _, rfl, h⟩
  case rest =>
    obtain ⟨mb, g, rfl, hs⟩ := hcut
    have HS0 := Lib.hid hs
    have cn0 := row1 hs.nc
    clear hs hIF HSize H9 HOf HR HFf HBw HWf hmk
    go_wp2
    go_loopw [35] (fun i wr => ∃ (j : Nat) (zs : Nat → C), j ≤ n ∧ i = .int .i64 (j : Nat) ∧ InvS w W1 wr (W1.heap.size + 1 + 1) mb g Wf.heap.size b n S zs ∧ (∀ i q, i < n → q < j → zs (i * n + q) = invE n S i q) ∧ (∀ q, q < j → colOk n S q = true)) (fun i _ => n - (intOf i).toNat)
    case atStart => exact ⟨0, _, Nat.zero_le _, rfl, HS0.out, fun i q _ hq => by omega, fun q hq => by omega⟩
    case round =>
      obtain ⟨j, zs, hj, rfl, hs, hz, hok⟩ := hrel
      have HS := Lib.hid hs
      have HZ := Lib.hid hz
      have HOk := Lib.hid hok
      have cn := row1 hs.nc
      have hjb : (j : Int) + 1 ≤ 65 := by have := HN.out; omega
      obtain ⟨c0, c1, c2, cf, d0, d1, df⟩ := hs.cells
      have cf0 := cf 0
      have cf1 := cf 1
      have cf2 := cf 2
      have df0 := df 0
      have df1 := df 1
      obtain ⟨m0, m1, m2, -⟩ := box3 hs.box
      rw [← HM.out] at m2
      clear hs hz hok cf df
      by_cases hlt : j < n
      · have hlti : (j : Int) < (n : Int) := Int.ofNat_lt.2 hlt
        have HC := Lib.hid (HCol.out _ b (W1.heap.size + 1 + 1) W1.heap.size j wr HS.out.has9 hlt cn (row1 HS.out.l) (row_lt HS.out.l))
        cases hc : colOk n S j
        · rw [hc] at HC
          simp only [Bool.false_eq_true, if_false] at HC
          have HF6 := Lib.hid (show ff = (6, (j : Int)) from by
            have h1 : invJ n S = j := invJ_of hlt HOk.out hc
            rw [HFF.out, h1, if_pos hlt])
          clear c0 c1 c2 cf0 cf1 cf2 d0 d1 df0 df1 m0 m1 m2
          go_wp2_with fail
          refine HC.out.mono ?_
          rintro e V ⟨s, rfl, -, hb⟩
          have HSV := Lib.hid (HS.out.below hb)
          obtain ⟨c0, c1, c2, cf, d0, d1, df⟩ := (HS.out.below hb).cells
          have cf0 := cf 0
          have cf1 := cf 1
          have cf2 := cf 2
          have df0 := df 0
          have df1 := df 1
          clear hb cf df cn
          go_wp2
          obtain ⟨q0, q1, q2, q3, q4⟩ := put32n (u := .int .i64 0) (v := .int .i64 0) (s := .slice none 0 0) (p := .int .i64 6) (q := .int .i64 (j : Nat)) HSV.out.r HSV.out.f (by omega)
          refine bodyPost_ret (v := .tuple #[mval 0 0 (.slice none 0 0), .agg #[.int .i64 6, .int .i64 (j : Nat)]]) (by simp [results, Try.results18, go_sem, q0, q1, q2, q3, q4]) rfl ?_
          rw [HF6.out]
          exact ⟨HSV.out.end_ _ _ _ _ _, fun h => absurd (show (6 : Int) = 0 from h) (by decide), fun _ => rfl⟩
        · rw [hc] at HC
          simp only [if_true] at HC
          clear c0 c1 c2 cf0 cf1 cf2 d0 d1 df0 df1 m0 m1 m2
          go_wp2_with fail
          refine HC.out.mono ?_
          rintro e V hr
          obtain ⟨A2, c2, rfl, hown, hb⟩ := hr.ok (colL_len n S j)
          have HSV := Lib.hid (HS.out.below hb)
          have HO := Lib.hid hown
          have HSz2 := Lib.hid (show g < wr.heap.size from row_lt HS.out.row)
          clear hr hown hb cn
          go_wp2
          go_loopw [52] (fun i wx => ∃ (i0 : Nat) (zx : Nat → C), i0 ≤ n ∧ i = .int .i64 (i0 : Nat) ∧ InvS w W1 wx (W1.heap.size + 1 + 1) mb g Wf.heap.size b n S zx ∧ wx.ownsRow wr.heap.size 53 1 (.slice A2 n c2) n (nums (colL n S j)) ∧ (∀ i q, i < n → q < j → zx (i * n + q) = invE n S i q) ∧ (∀ i, i < i0 → zx (i * n + j) = invE n S i j)) (fun i _ => n - (intOf i).toNat)
          case atStart => exact ⟨0, _, Nat.zero_le _, rfl, HSV.out, HO.out, HZ.out, fun i hi => by omega⟩
          case round =>
            obtain ⟨i0, zx, hi0, rfl, hs, hown, hz, hzj⟩ := hrel
            have HSx := Lib.hid hs
            have HOx := Lib.hid hown
            have HZx := Lib.hid hz
            have HZj := Lib.hid hzj
            have hib : (i0 : Int) + 1 ≤ 65 := by have := HN.out; omega
            have cn := row1 hs.nc
            obtain ⟨m0, m1, m2, -⟩ := box3 hs.box
            rw [← HM.out] at m2
            clear hs hown hz hzj
            by_cases hi : i0 < n
            · have hii : (i0 : Int) < (n : Int) := Int.ofNat_lt.2 hi
              obtain ⟨ad, rfl, -, hce⟩ := (Reads.of_own HOx.out).at_ (colL_get hi)
              obtain ⟨zv, hzv⟩ : ∃ zv, zv = invE n S i0 j := ⟨_, rfl⟩
              rw [← hzv] at hce
              obtain ⟨r, hr⟩ : ∃ r, r = i0 * n := ⟨_, rfl⟩
              obtain ⟨p, hp⟩ : ∃ p, p = i0 * n + j := ⟨_, rfl⟩
              have hpM : p < M := by
                have h1 : (i0 + 1) * n ≤ n * n := Nat.mul_le_mul_right _ hi
                rw [Nat.add_mul, Nat.one_mul] at h1
                rw [hp, HM.out]; omega
              have hrp : p = r + j := by rw [hp, hr]
              have hm4 := HM4.out
              have hm1 : IntKind.i64.wrap ((i0 : Int) * (n : Int)) = (r : Int) := wrapI (by rw [hr, Int.natCast_mul]) (by omega)
              have hm2 : IntKind.i64.wrap ((r : Int) + (j : Int)) = (p : Int) := wrapI (by rw [hrp, Int.natCast_add]) (by omega)
              have hm1' : wrap64 ((i0 : Int) * (n : Int)) = (r : Int) := wrap64I (by rw [hr, Int.natCast_mul]) (by omega)
              have hm2' : wrap64 ((r : Int) + (j : Int)) = (p : Int) := wrap64I (by rw [hrp, Int.natCast_add]) (by omega)
              have hpi : (p : Int) < (M : Int) := Int.ofNat_lt.2 hpM
              have hcx := HSx.out.cellX (i := p) (by rw [← HM.out]; exact hpM)
              have hfx := HSx.out.frozenX p
              have HP := Lib.hid hp
              have HZv := Lib.hid hzv
              clear hzv hr hp hrp hm4
              go_wp2
              go_roundw
              case rel =>
                refine ⟨i0 + 1, _, hi, by go_num, HSx.out.put p zv, ownsRow_setCell_below HOx.out (by have := HSz2.out; exact this) _, fun i q hi' hq => ?_, fun i hi' => ?_⟩
                · rw [putX_other]
                  · exact HZx.out i q hi' hq
                  · rw [HP.out]
                    intro e
                    have h1 := congrArg (· % n) e
                    simp only [Nat.mul_comm _ n, Nat.mul_add_mod] at h1
                    rw [Nat.mod_eq_of_lt (by omega), Nat.mod_eq_of_lt (by omega)] at h1
                    omega
                · by_cases e : i = i0
                  · subst e
                    rw [← HP.out, putX_same]; exact HZv.out
                  · rw [putX_other]
                    · exact HZj.out i (by omega)
                    · rw [HP.out]
                      intro e2
                      exact e (Nat.eq_of_mul_eq_mul_right (by omega) (Nat.add_right_cancel e2))
              case measure => simp [intOf]; omega
            · have e : i0 = n := by omega
              subst e
              go_wp2
              go_roundw
              case rel =>
                refine ⟨j + 1, _, hlt, by go_num, HSx.out, fun i q hi' hq => ?_, fun q hq => ?_⟩
                · by_cases e : q = j
                  · subst e; exact HZj.out i hi'
                  · exact HZx.out i q hi' (by omega)
                · by_cases e : q = j
                  · subst e; exact hc
                  · exact HOk.out q (by omega)
              case measure => simp [intOf]; omega
      · have e : j = n := by omega
        subst e
        have HF0 := Lib.hid (show ff = (0, 0) from by rw [HFF.out, if_neg (invJ_all HOk.out)])
        go_wp2
        obtain ⟨q0, q1, q2, q3, q4⟩ := put32n (u := .int .i64 (j : Nat)) (v := .int .i64 (j : Nat)) (s := .slice (some ⟨g, 0, none⟩) M M) (p := .int .i64 0) (q := .int .i64 0) HS.out.r HS.out.f (by omega)
        refine bodyPost_ret (v := .tuple #[mval j j (.slice (some ⟨g, 0, none⟩) M M), .agg #[.int .i64 0, .int .i64 0]]) (by simp [results, Try.results18, go_sem, q0, q1, q2, q3, q4]) rfl ?_
        rw [HF0.out]
        refine ⟨HS.out.end_ _ _ _ _ _, fun _ => ⟨_, rfl, ?_⟩, fun h => absurd rfl h⟩
        have ho := HS.out.own (E := invE j S) HZ.out HN.out
        rw [← HM.out] at ho ⊢
        obtain ⟨o1, o2⟩ := ho
        refine ⟨o1, o2.imp id ?_⟩
        rintro ⟨g', cap', cur, e1, o3, o4, o5⟩
        have hgl := HS.out.gn
        have h1 := HS.out.size
        have h2 := HS.out.nlt
        have eg : g = g' := by injection e1 with e1; injection e1 with e1; injection e1
        subst eg
        exact ⟨g, cap', cur, e1, o3, by rw [Below.heap_setCell _ _ _ _ (by show g ≠ w.heap.size + 1 + 1; omega), Below.heap_setCell _ _ _ _ (by show g ≠ w.heap.size + 1 + 1; omega), Below.heap_setCell _ _ _ _ (by show g ≠ w.heap.size + 1; omega), Below.heap_setCell _ _ _ _ (by show g ≠ w.heap.size + 1; omega), Below.heap_setCell _ _ _ _ (by show g ≠ w.heap.size + 1; omega)]; exact o4, o5⟩
end Go.Proofs.Ytajdfbjjgjpicaa
