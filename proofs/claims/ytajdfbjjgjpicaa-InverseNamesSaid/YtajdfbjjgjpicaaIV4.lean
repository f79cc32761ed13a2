/- Layer 12: the inverse, whatever it is asked of; what is carried (inverse.Carried). -/
import Derived.Test.YtajdfbjjgjpicaaIV3
namespace Go.Proofs.Ytajdfbjjgjpicaa
open Go.RowKit Fl Ieee
set_option maxRecDepth 20000
attribute [local go_sem] run_store_float run_store_complex Fl.order_self Fl.order_self'
theorem of_shape {r c : Int} {l : List C} (hF : (ofF r c l).1 = 0) : ∃ n : Nat, r = n ∧ c = n ∧ n ≤ 64 ∧ l.length = n * n := by
  have ho : okM r c l.length = true := by
    cases h : okM r c l.length
    · unfold ofF at hF; rw [h] at hF; simp at hF
    · rfl
  have e : r = c := by
    cases h : r == c
    · unfold ofF at hF; rw [ho, h] at hF; simp at hF
    · simpa using h
  subst e
  obtain ⟨h0, h1, -, -, h2⟩ := okM_iff.1 ho
  obtain ⟨n, rfl⟩ : ∃ n : Nat, r = n := ⟨r.toNat, by omega⟩
  exact ⟨n, rfl, rfl, by omega, by
    have h3 : ((l.length : Nat) : Int) = ((n * n : Nat) : Int) := by rw [h2, Int.natCast_mul]
    exact Int.ofNat_inj.1 h3⟩
theorem Inv_c (r c : Int) (A : Option Addr) (l : List C) (cap : Nat) (w : World) (hcap : l.length ≤ cap) (hrd : Reads w w.heap.size A (nums l)) (hlt : ltCs l) :
    Calls Try.prog 18 #[mval r c (.slice A l.length cap)] w (RetI (ofI r c l) r.toNat (invE r.toNat (ofS r l)) w) := by
  by_cases hF : (ofF r c l).1 = 0
  · obtain ⟨n, rfl, rfl, hn, hl⟩ := of_shape hF
    have e2 : ofI n n l = if invJ n (ofS n l) < n then (6, (invJ n (ofS n l) : Int)) else (0, 0) := by
      unfold ofI; rw [if_pos hF]; rfl
    rw [e2]
    exact inv_good n A l cap w hn hl hcap hrd hlt hF
  · have e2 : ofI r c l = ofF r c l := by unfold ofI; rw [if_neg hF]
    rw [e2]
    exact inv_bad r c A l cap w hcap hrd hlt hF _ _
def RetCar (v : Nat) (f : Int × Int) (w : World) (e : Ending) (w' : World) : Prop := e = .returned (.tuple #[.float .f64 v, .agg #[.int .i64 f.1, .int .i64 f.2]]) ∧ Below w.heap.size w w'
/-- What stands ahead of the call of inverse.Of. -/
theorem frameCar (w : World) (r c : Int) (s : Value) : ∃ W, W = (w.alloc (.cells #[.int .i64 r, .int .i64 c, s] 28)).alloc (.cells #[.int .i64 0, .int .i64 0] 43) ∧
    W.heap[w.heap.size]? = some (.cells #[.int .i64 r, .int .i64 c, s] 28) ∧ W.heap[w.heap.size + 1]? = some (.cells #[.int .i64 0, .int .i64 0] 43) ∧ Below w.heap.size w W ∧ W.heap.size = w.heap.size + 2 :=
  ⟨_, rfl, row_alloc (heap_alloc_new w _), row_new2 w _ _, (below_new w _).new (Nat.le_refl _) _, by simp⟩
set_option maxHeartbeats 4000000 in
theorem Car_bad (r c : Int) (A : Option Addr) (l : List C) (cap : Nat) (w : World) (hcap : l.length ≤ cap) (hrd : Reads w w.heap.size A (nums l)) (hlt : ltCs l) (hI : (ofI r c l).1 ≠ 0) :
    Calls Try.prog 20 #[mval r c (.slice A l.length cap)] w (RetCar 0 (ofI r c l) w) := by
  obtain ⟨Wf, hWf, hm, hff, hbw, hsz⟩ := frameCar w r c (.slice A l.length cap)
  obtain ⟨f1, f2, hf⟩ : ∃ f1 f2, ofI r c l = (f1, f2) := ⟨_, _, rfl⟩
  have HOf := Lib.hid (show Calls Try.prog 18 #[mval r c (.slice A l.length cap)] Wf fun e w' => e = .returned (.tuple #[mval 0 0 (.slice none 0 0), .agg #[.int .i64 f1, .int .i64 f2]]) ∧ Below Wf.heap.size Wf w' from
    (Inv_c r c A l cap Wf hcap ((hrd.below hbw).more hbw.size) hlt).mono fun e w' h => by
      obtain ⟨h1, -, h2⟩ := h
      have h2 := h2 hI
      rw [hf] at h2; exact ⟨h2, h1⟩)
  rw [hf] at hI ⊢
  have hne : (f1 == 0) = false := by simpa using hI
  have HFf := Lib.hid hff
  have HBw := Lib.hid hbw
  have HSz := Lib.hid hsz
  rw [hWf] at HOf
  have HWf := Lib.hid hWf
  clear hcap hrd hlt hI hm hff hbw hsz hf hWf
  go_enter Try.func20, Try.ntmps20
  go_wp2_with fail
  refine HOf.out.mono ?_
  rintro e W1 ⟨rfl, hb⟩
  rw [← HWf.out] at hb
  have hb2 := (hb.trans ((below_new W1 zrow).mono hb.size)).trans ((below_new (W1.alloc zrow) (.cells #[.int .i64 f1, .int .i64 f2] 43)).mono (Nat.le_trans hb.size (below_new W1 _).size))
  have hf1 := row_keep hb2 HFf.out
  have HF1 := Lib.hid hf1
  have HB1 := Lib.hid (HBw.out.trans (hb2.mono HBw.out.size))
  obtain ⟨d0, d1, fd⟩ := row2 hf1
  have g0 := fd 0
  have g1 := fd 1
  obtain ⟨e0, e1, fe⟩ := row2 (row_new2 W1 zrow (.cells #[.int .i64 f1, .int .i64 f2] 43))
  have hlt := hb.size
  rw [HSz.out] at hlt
  have n2 : W1.heap.size ≠ w.heap.size := by omega
  have n3 : w.heap.size ≠ W1.heap.size := by omega
  clear hb hb2 hf1 fd hlt fe
  go_wp2
  go_region
  all_goals go_wp2
  all_goals
    obtain ⟨q3, q4⟩ := set2 (u := .int .i64 f1) (v := .int .i64 f2) d0 d1
    refine bodyPost_ret (v := .tuple #[.float .f64 0, .agg #[.int .i64 f1, .int .i64 f2]]) (by simp [results, Try.results20, go_sem, q3, q4]) rfl ?_
    exact ⟨rfl, ((HB1.out.setCell (Nat.le_succ _) _).setCell (Nat.le_succ _) _).drew⟩
set_option maxHeartbeats 4000000 in
theorem Car_good (n : Nat) (A : Option Addr) (l : List C) (cap : Nat) (w : World) (hn : n ≤ 64) (hl : l.length = n * n) (hcap : l.length ≤ cap) (hrd : Reads w w.heap.size A (nums l)) (hlt : ltCs l) (hI : (ofI n n l).1 = 0) :
    Calls Try.prog 20 #[mval n n (.slice A l.length cap)] w (RetCar (carV n n l) (carF n n l) w) := by
  obtain ⟨Wf, hWf, hm, hff, hbw, hsz⟩ := frameCar w n n (.slice A l.length cap)
  obtain ⟨M, hM⟩ : ∃ M, M = n * n := ⟨_, rfl⟩
  obtain ⟨L, hL⟩ : ∃ L, L = entries n (invE n (ofS n l)) (n * n) := ⟨_, rfl⟩
  have hLl : L.length = n * n := by rw [hL]; simp [entries]
  have hLM : L.length = M := hLl.trans hM.symm
  have hLt : ltCs L := by rw [hL]; exact inv_lt hn hl hlt (ofI_ok hI).1
  have hlM : l.length = M := hl.trans hM.symm
  have HOf := Lib.hid (show Calls Try.prog 18 #[mval n n (.slice A M cap)] Wf fun e w' => ∃ A2 c2, e = .returned (.tuple #[mval n n (.slice A2 M c2), .agg #[.int .i64 0, .int .i64 0]]) ∧ Reads w' w'.heap.size A2 (nums L) ∧ Below Wf.heap.size Wf w' from by
    rw [← hlM]
    exact (Inv_c n n A l cap Wf hcap ((hrd.below hbw).more hbw.size) hlt).mono fun e w' h => by
      obtain ⟨h1, h2, -⟩ := h
      obtain ⟨s, rfl, ho⟩ := h2 hI
      have ho' : w'.ownsRow Wf.heap.size 53 1 s M (nums L) := by rw [hL, hM]; exact ho
      obtain ⟨A2, m, c2, rfl, rfl⟩ := slice_of_own ho'
      exact ⟨A2, c2, by rw [hlM]; rfl, Reads.of_own ho', h1⟩)
  obtain ⟨x1, hx1⟩ : ∃ x, x = norm1 l n n := ⟨_, rfl⟩
  obtain ⟨x2, hx2⟩ : ∃ x, x = norm1 L n n := ⟨_, rfl⟩
  have HN1 := Lib.hid (fun (V : World) (h : Reads V V.heap.size A (nums l)) => (show Calls Try.prog 34 #[mval n n (.slice A M cap)] V (RetFE x1 0 V) from by
    rw [← hlM, hx1]; exact Norm1_c n n A l cap V hn hn hl h hlt))
  have HN2 := Lib.hid (fun (A2 : Option Addr) (c2 : Nat) (V : World) (h : Reads V V.heap.size A2 (nums L)) => (show Calls Try.prog 34 #[mval n n (.slice A2 M c2)] V (RetFE x2 0 V) from by
    rw [← hLM, hx2]; exact Norm1_c n n A2 L c2 V hn hn hLl h hLt))
  obtain ⟨cf, hcf⟩ : ∃ cf, cf = carF n n l := ⟨_, rfl⟩
  obtain ⟨cv, hcv⟩ : ∃ cv, cv = carV n n l := ⟨_, rfl⟩
  rw [← hcf, ← hcv]
  have hcP : carP n l = fmul (cn .f64 x1) (cn .f64 x2) := by unfold carP; rw [← hL, hx1, hx2]
  have HCar := Lib.hid (show (cf = if isInf double (carP n l) || isNaN double (carP n l) then (6, -1) else (0, 0)) ∧ (cv = if isInf double (carP n l) || isNaN double (carP n l) then 0 else carP n l) from by
    rw [hcf, hcv]; unfold carF carV; rw [if_pos hI, if_pos hI]; exact ⟨rfl, rfl⟩)
  rw [hcP] at HCar
  rw [hlM] at hWf hm ⊢
  have HFf := Lib.hid hff
  have HBw := Lib.hid hbw
  have HSz := Lib.hid hsz
  have HM := Lib.hid hm
  have HRd := Lib.hid ((hrd.below hbw).more hbw.size)
  rw [hWf] at HOf
  have HWf := Lib.hid hWf
  clear hcap hrd hlt hI hm hff hbw hsz hWf hM hL hLl hLM hLt hlM hx1 hx2 hcf hcv hcP hl hn
  go_enter Try.func20, Try.ntmps20
  go_wp2_with fail
  refine HOf.out.mono ?_
  rintro e W1 ⟨A2, c2, rfl, hr, hb⟩
  rw [← HWf.out] at hb
  have hbn := (below_new W1 (.cells #[.int .i64 (n : Nat), .int .i64 (n : Nat), .slice A2 M c2] 28)).new (Nat.le_refl _) (.cells #[.int .i64 0, .int .i64 0] 43)
  have hb2 := hb.trans (hbn.mono hb.size)
  have HF1 := Lib.hid (row_keep hb2 HFf.out)
  have HM1 := Lib.hid (row_keep hb2 HM.out)
  have HX1 := Lib.hid (row_alloc (o' := (.cells #[.int .i64 0, .int .i64 0] 43)) (heap_alloc_new W1 (.cells #[.int .i64 (n : Nat), .int .i64 (n : Nat), .slice A2 M c2] 28)))
  have HB1 := Lib.hid (HBw.out.trans (hb2.mono HBw.out.size))
  have HRd1 := Lib.hid ((HRd.out.below hb2).more hb2.size)
  have HRx1 := Lib.hid ((hr.below hbn).more hbn.size)
  obtain ⟨b0, b1, b2, -⟩ := box3 HM1.out
  clear hb hb2 hbn hr
  go_wp2_with fail
  refine (HN1.out _ HRd1.out).mono ?_
  rintro e W2 ⟨rfl, hb⟩
  have HF2 := Lib.hid (row_keep hb HF1.out)
  have HB2 := Lib.hid (HB1.out.trans (hb.mono HB1.out.size))
  have HRx2 := Lib.hid ((HRx1.out.below hb).more hb.size)
  obtain ⟨y0, y1, y2, -⟩ := box3 (row_keep hb HX1.out)
  clear hb b0 b1 b2
  go_wp2_with fail
  refine (HN2.out _ _ _ HRx2.out).mono ?_
  rintro e W3 ⟨rfl, hb⟩
  have HF3 := Lib.hid (row_keep hb HF2.out)
  have HB3 := Lib.hid (HB2.out.trans (hb.mono HB2.out.size))
  clear hb y0 y1 y2
  go_wp2_with fail
  refine upon_mul _ _ _ _ ?_
  intro r1 n1 h1
  have hr1 := h1.2
  have HInf := Lib.hid (fun V : World => mIsInf_c r1 hr1 V)
  have e1 : cn .f64 r1 = fmul (cn .f64 x1) (cn .f64 x2) := h1.1
  have HC2 := HCar.out
  rw [← e1, show isInf double (cn .f64 r1) = isInf double r1 from isInf_cn .f64 r1, show isNaN double (cn .f64 r1) = isNaN double r1 from isNaN_cn .f64 r1] at HC2
  obtain ⟨hc1, hc2⟩ := HC2
  obtain ⟨d0, d1, fd⟩ := row2 (show (W3.drewN n1).heap[w.heap.size + 1]? = _ from HF3.out)
  have g0 := fd 0
  have g1 := fd 1
  clear h1 e1 fd
  cases hi : isInf double r1
  · rw [hi] at hc1 hc2 HInf
    cases hn : isNaN double r1
    · rw [hn] at hc1 hc2
      have hn' : isNaN FloatKind.f64.format r1 = false := hn
      have HCF := Lib.hid (show cf = (0, 0) from hc1)
      have HCV := Lib.hid (show cv = cn .f64 r1 from hc2)
      have hcr := Lib.hid (cn_of_not (k := .f64) (x := r1) hn)
      clear hc1 hc2
      go_wp2_with fail
      refine (HInf.out _).mono ?_
      rintro e V ⟨rfl, rfl⟩
      go_wp2
      obtain ⟨q3, q4⟩ := set2 (u := .int .i64 0) (v := .int .i64 0) d0 d1
      refine bodyPost_ret (v := .tuple #[.float .f64 r1, .agg #[.int .i64 0, .int .i64 0]]) (by simp [results, Try.results20, go_sem, q3, q4]) rfl ?_
      rw [HCF.out, HCV.out, hcr.out]
      exact ⟨rfl, ((below_drewN HB3.out n1).setCell (Nat.le_succ _) _).setCell (Nat.le_succ _) _⟩
    · rw [hn] at hc1 hc2
      have hn' : isNaN FloatKind.f64.format r1 = true := hn
      have HCF := Lib.hid (show cf = (6, -1) from hc1)
      have HCV := Lib.hid (show cv = 0 from hc2)
      clear hc1 hc2
      go_wp2_with fail
      refine (HInf.out _).mono ?_
      rintro e V ⟨rfl, rfl⟩
      go_wp2
      obtain ⟨q3, q4⟩ := set2 (u := .int .i64 6) (v := .int .i64 (-1)) d0 d1
      refine bodyPost_ret (v := .tuple #[.float .f64 0, .agg #[.int .i64 6, .int .i64 (-1)]]) (by simp [results, Try.results20, go_sem, q3, q4]) rfl ?_
      rw [HCF.out, HCV.out]
      exact ⟨rfl, ((below_drewN HB3.out n1).setCell (Nat.le_succ _) _).setCell (Nat.le_succ _) _⟩
  · rw [hi] at hc1 hc2 HInf
    have HCF := Lib.hid (show cf = (6, -1) from hc1)
    have HCV := Lib.hid (show cv = 0 from hc2)
    clear hc1 hc2
    go_wp2_with fail
    refine (HInf.out _).mono ?_
    rintro e V ⟨rfl, rfl⟩
    go_wp2
    obtain ⟨q3, q4⟩ := set2 (u := .int .i64 6) (v := .int .i64 (-1)) d0 d1
    refine bodyPost_ret (v := .tuple #[.float .f64 0, .agg #[.int .i64 6, .int .i64 (-1)]]) (by simp [results, Try.results20, go_sem, q3, q4]) rfl ?_
    rw [HCF.out, HCV.out]
    exact ⟨rfl, ((below_drewN HB3.out n1).setCell (Nat.le_succ _) _).setCell (Nat.le_succ _) _⟩
theorem ofI_shape {r c : Int} {l : List C} (h : (ofI r c l).1 = 0) : ∃ n : Nat, r = n ∧ c = n ∧ n ≤ 64 ∧ l.length = n * n := of_shape (ofI_ok h).1
theorem Car_c (r c : Int) (A : Option Addr) (l : List C) (cap : Nat) (w : World) (hcap : l.length ≤ cap) (hrd : Reads w w.heap.size A (nums l)) (hlt : ltCs l) :
    Calls Try.prog 20 #[mval r c (.slice A l.length cap)] w (RetCar (carV r c l) (carF r c l) w) := by
  by_cases hI : (ofI r c l).1 = 0
  · obtain ⟨n, rfl, rfl, hn, hl⟩ := ofI_shape hI
    exact Car_good n A l cap w hn hl hcap hrd hlt hI
  · have e1 : carF r c l = ofI r c l := by unfold carF; rw [if_neg hI]
    have e2 : carV r c l = 0 := by unfold carV; rw [if_neg hI]
    rw [e1, e2]
    exact Car_bad r c A l cap w hcap hrd hlt hI
end Go.Proofs.Ytajdfbjjgjpicaa
namespace Go.Proofs.Ytajdfbjjgjpicaa
open Go.RowKit Fl Ieee
set_option maxRecDepth 20000
attribute [local go_sem] run_store_float run_store_complex
theorem RetI.ok {f : Int × Int} {n M : Nat} {E : Nat → Nat → C} {w w' : World} {e : Ending} (h : RetI f n E w e w') (hf : f.1 = 0) (hM : M = n * n) :
    ∃ A c, e = .returned (.tuple #[mval n n (.slice A M c), .agg #[.int .i64 0, .int .i64 0]]) ∧ Reads w' w'.heap.size A (nums (entries n E M)) ∧ M ≤ c ∧ Below w.heap.size w w' := by
  obtain ⟨h1, h2, -⟩ := h
  obtain ⟨s, rfl, ho⟩ := h2 hf
  rw [← hM] at ho
  obtain ⟨A, cap, rfl, h4, h5, h6⟩ := own_reads ho
  exact ⟨A, cap, rfl, h4, h5, h1⟩
theorem RetI.bad {f : Int × Int} {n : Nat} {E : Nat → Nat → C} {w w' : World} {e : Ending} (h : RetI f n E w e w') (hf : f.1 ≠ 0) :
    e = .returned (.tuple #[mval 0 0 (.slice none 0 0), .agg #[.int .i64 f.1, .int .i64 f.2]]) ∧ Below w.heap.size w w' := ⟨h.2.2 hf, h.1⟩
theorem square12_c (x y z u : C) (w : World) :
    Calls Try.prog 26 #[.complex .f64 x.1 x.2, .complex .f64 y.1 y.2, .complex .f64 z.1 z.2, .complex .f64 u.1 u.2] w (RetMs 2 2 [x, y, z, u] w) := by
  obtain ⟨x1, x2⟩ := x
  obtain ⟨y1, y2⟩ := y
  obtain ⟨z1, z2⟩ := z
  obtain ⟨u1, u2⟩ := u
  go_enter Try.func26, Try.ntmps26
  go_wp2
  refine bodyPost_ret (v := mval 2 2 (.slice (some ⟨w.heap.size + 1, 0, none⟩) 4 4)) (by simp [results, Try.results26, go_sem]) rfl ?_
  exact ⟨_, rfl, own_new (o := .cells #[.int .i64 2, .int .i64 2, .slice (some ⟨w.heap.size + 1, 0, none⟩) 4 4] 28) (l := [(x1, x2), (y1, y2), (z1, z2), (u1, u2)]) (by show 4 ≤ maxLen; decide), ((below_new _ _).new (Nat.le_refl _) _)⟩
theorem one12_c (x : C) (w : World) :
    Calls Try.prog 27 #[.complex .f64 x.1 x.2] w (RetMs 1 1 [x] w) := by
  obtain ⟨x1, x2⟩ := x
  go_enter Try.func27, Try.ntmps27
  go_wp2
  refine bodyPost_ret (v := mval 1 1 (.slice (some ⟨w.heap.size + 1, 0, none⟩) 1 1)) (by simp [results, Try.results27, go_sem]) rfl ?_
  exact ⟨_, rfl, own_new (o := .cells #[.int .i64 1, .int .i64 1, .slice (some ⟨w.heap.size + 1, 0, none⟩) 1 1] 28) (l := [(x1, x2)]) (by show 1 ≤ maxLen; decide), ((below_new _ _).new (Nat.le_refl _) _)⟩
def exI : List C := [(0, fone), (0, 0), (0, 0), (4611686018427387904, 0)]
def exJ : List C := [(0, 13830554455654793216), (0, 0), (0, 0), (4602678819172646912, 0)]
theorem exI_lt : ltCs exI := by intro z hz; simp [exI] at hz; rcases hz with rfl | rfl | rfl | rfl <;> exact ⟨by decide, by decide⟩
theorem exI_f : ofI 2 2 exI = (0, 0) := by decide +kernel
theorem equal_of {l m : List C} {n : Nat} (h : (List.range n).all (fun k => pEqual (cnC (l.getD k (0, 0))) (cnC (m.getD k (0, 0)))) = true) (hl : l.length = n) :
    ∀ (k : Nat) (x y : C), l[k]? = some x → m[k]? = some y → pEqual (cnC x) (cnC y) = true := fun k x y hx hy => by
  have hk : k < n := by rw [← hl]; exact lt_of_some hx
  have h1 := List.all_eq_true.1 h k (List.mem_range.2 hk)
  rw [List.getD_eq_getElem?_getD, hx, List.getD_eq_getElem?_getD, hy] at h1
  exact h1
theorem exI_e : (List.range 4).all (fun k => pEqual (cnC ((entries 2 (invE 2 (ofS 2 exI)) 4).getD k (0, 0))) (cnC (exJ.getD k (0, 0)))) = true := by decide +kernel
set_option maxHeartbeats 4000000 in
theorem awake12_c (w : World) : Calls Try.prog 22 #[] w (RetBB true w) := by
  have H1 := Lib.hid (fun V => square12_c (0, fone) (0, 0) (0, 0) (4611686018427387904, 0) V)
  have H2 := Lib.hid (fun V => square12_c (0, 13830554455654793216) (0, 0) (0, 0) (4602678819172646912, 0) V)
  have HI := Lib.hid (fun (A : Option Addr) (cap : Nat) (V : World) (h1 : 4 ≤ cap) (h2 : Reads V V.heap.size A (nums exI)) =>
    (show Calls Try.prog 18 #[mval 2 2 (.slice A 4 cap)] V fun e w' => ∃ A c, e = .returned (.tuple #[mval 2 2 (.slice A 4 c), .agg #[.int .i64 0, .int .i64 0]]) ∧ Reads w' w'.heap.size A (nums (entries 2 (invE 2 (ofS 2 exI)) 4)) ∧ 4 ≤ c ∧ Below V.heap.size V w' from
      (Inv_c 2 2 A exI cap V h1 h2 exI_lt).mono fun e w' h => h.ok (by rw [exI_f]) rfl))
  have HE := Lib.hid (fun (A B : Option Addr) (ca cb : Nat) (V : World) (hA : Reads V V.heap.size A (nums (entries 2 (invE 2 (ofS 2 exI)) 4))) (hB : Reads V V.heap.size B (nums exJ)) =>
    EqualMatrix_t 2 2 A B (entries 2 (invE 2 (ofS 2 exI)) 4) exJ 4 ca cb V (by simp [entries]) rfl (equal_of exI_e (by simp [entries])) (by decide) hA hB)
  go_enter Try.func22, Try.ntmps22
  go_wp2_with fail
  refine (H1.out _).mono ?_
  rintro e W1 hr
  obtain ⟨A, cap, rfl, hrd, hle, -, -, hb⟩ := hr.lies
  have B1 := Lib.hid hb
  have HOf := Lib.hid (HI.out A cap W1 hle hrd)
  clear hr hb hrd hle
  go_wp2_with fail
  refine HOf.out.mono ?_
  rintro e W2 ⟨A2, c2, rfl, hr, -, hb⟩
  have hbn := (below_new W2 (.cells #[.int .i64 2, .int .i64 2, .slice A2 4 c2] 28)).new (Nat.le_refl _) (.cells #[.int .i64 0, .int .i64 0] 43)
  have HX := Lib.hid (row_alloc (o' := (.cells #[.int .i64 0, .int .i64 0] 43)) (heap_alloc_new W2 (.cells #[.int .i64 2, .int .i64 2, .slice A2 4 c2] 28)))
  have B2 := Lib.hid ((B1.out.trans (hb.mono B1.out.size)).trans (hbn.mono (B1.out.trans (hb.mono B1.out.size)).size))
  have HR2 := Lib.hid ((hr.below hbn).more hbn.size)
  have HFq := Lib.hid (row_new2 W2 (.cells #[.int .i64 2, .int .i64 2, .slice A2 4 c2] 28) (.cells #[.int .i64 0, .int .i64 0] 43))
  clear hb hbn hr HOf HI
  go_wp2_with fail
  generalize (W2.alloc (.cells #[.int .i64 2, .int .i64 2, .slice A2 4 c2] 28)).alloc (.cells #[.int .i64 0, .int .i64 0] 43) = WX at HX B2 HR2 HFq ⊢
  have HK := Lib.hid (fun (V : World) (hV : Below WX.heap.size WX V) => (show V.cell? ⟨W2.heap.size, 0, none⟩ = some (.int .i64 2) ∧ V.cell? ⟨W2.heap.size, 1, none⟩ = some (.int .i64 2) ∧ V.cell? ⟨W2.heap.size, 2, none⟩ = some (.slice A2 4 c2) ∧ V.cell? ⟨W2.heap.size + 1, 0, none⟩ = some (.int .i64 0) ∧ V.cell? ⟨W2.heap.size + 1, 1, none⟩ = some (.int .i64 0) from by
    obtain ⟨a, b, c, -⟩ := box3 (row_keep hV HX.out)
    obtain ⟨d, e, -⟩ := row2 (row_keep hV HFq.out)
    exact ⟨a, b, c, d, e⟩))
  go_region_held3 (fun V => V.cell? ⟨W2.heap.size, 0, none⟩ = some (.int .i64 2) ∧ V.cell? ⟨W2.heap.size, 1, none⟩ = some (.int .i64 2) ∧ V.cell? ⟨W2.heap.size, 2, none⟩ = some (.slice A2 4 c2) ∧ V.cell? ⟨W2.heap.size + 1, 0, none⟩ = some (.int .i64 0) ∧ V.cell? ⟨W2.heap.size + 1, 1, none⟩ = some (.int .i64 0))
    (with_reducible refine HK.out _ ?_; (repeat (first | with_reducible assumption | with_reducible refine Below.drew ?_ | with_reducible exact Below.refl _ _)); done)
    (first
    | (go_at_call 26; (with_reducible refine (H2.out _).mono ?_); (rintro e V hr); (obtain ⟨A3, c3, rfl, hrd2, hle3, -, -, hb⟩ := hr.lies); (have hrd3 : Reads V V.heap.size A3 (nums exJ) := hrd2); (have hV : Below WX.heap.size WX V := Below.trans (by repeat (first | with_reducible assumption | with_reducible refine Below.drew ?_ | with_reducible exact Below.refl _ _)) (Below.mono hb (by exact Nat.le_refl _))))
    | (go_at_call 21; (with_reducible refine (HE.out A2 A3 c2 c3 V ((HR2.out.below hV).more hV.size) hrd3).mono ?_); (rintro e V2 ⟨rfl, hb2⟩); (have hV2 : Below WX.heap.size WX V2 := hV.trans (hb2.mono hV.size))))
  all_goals
    go_wp2
    go_ret
    exact ⟨rfl, B2.out.trans (hV2.mono B2.out.size)⟩
end Go.Proofs.Ytajdfbjjgjpicaa
