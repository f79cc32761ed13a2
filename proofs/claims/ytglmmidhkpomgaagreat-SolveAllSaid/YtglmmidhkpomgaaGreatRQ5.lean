/- The document's layer 10: many right sides (gridworkref10.Many). -/
import Derived.Test.YtglmmidhkpomgaaGreatRQ4
import Derived.StillTailTactics
import Derived.Deep.DeepCutAuto
namespace Go.Proofs.YtglmmidhkpomgaaGreat
open Go.RowKit Fl Ieee
set_option maxRecDepth 20000
attribute [local go_sem] run_store_float run_store_complex Fl.order_self Fl.order_self' Fl.order_eq Fl.order_ne Fl.order_lt Fl.order_gt Fl.fle_fold Fl.fge_fold
end Go.Proofs.YtglmmidhkpomgaaGreat
namespace Go
section
variable {P : Program} {ops : Array Oper} {Q : Exit → Act → World → Prop} {md : Region.Mode}
/-- An operation whose guard does not hold is taken first: it does nothing. -/
theorem wpAny_skip {i : Nat} {oi : Oper} {f : Nat} {listed : Array Bool} {a : Act} {w : World} (hi : ops[i]? = some oi) (hs : Region.noSelect ops = true)
    (hf : Region.free md ops listed i = true) (hr : (Region.ready md ops listed).contains i = true) (hQ : ∀ c a w, Q (.panic c) (a.put oi.dst undef) w → Q (.panic c) a w)
    (hw : Region.wanted oi (yielded ops a.tmps) = false) (h : wpAny P md ops Q f (listed.setIfInBounds i true) (a.put oi.dst undef) w) : wpAny P md ops Q (f + 1) listed a w :=
  wpAny_first hi (Region.noSelect_spec hs) hQ f listed a w (Region.free_spec hi hf) (by simpa using hr) (Or.inr ⟨hw, rfl⟩) h
end
end Go
namespace Go.Proofs.YtglmmidhkpomgaaGreat
open Go.RowKit Fl Ieee
set_option maxRecDepth 20000
attribute [local go_sem] run_store_float run_store_complex Fl.order_self Fl.order_self' Fl.order_eq Fl.order_ne Fl.order_lt Fl.order_gt Fl.fle_fold Fl.fge_fold
/-- What is kept while many right sides are gone through. -/
structure KQ (w W : World) (B b n : Nat) (S : El) (ti : Bool) (r c : Int) (Ab : Option Addr) (l : List C) (cap : Nat) : Prop where
  bel : Below w.heap.size w W
  x : rHas W B b n S ti
  bx : W.heap[w.heap.size]? = some (.cells #[.int .i64 r, .int .i64 c, .slice Ab l.length cap] 33)
  bz : W.heap[w.heap.size + 1]? = some zrow
  rd : Reads W W.heap.size Ab (nums l)
theorem KQ.below {w W V : World} {B b n : Nat} {S : El} {ti : Bool} {r c : Int} {Ab : Option Addr} {l : List C} {cap : Nat} (h : KQ w W B b n S ti r c Ab l cap) (hb : Below W.heap.size W V) : KQ w V B b n S ti r c Ab l cap :=
  ⟨h.bel.trans (hb.mono h.bel.size), h.x.below hb, row_keep hb h.bx, row_keep hb h.bz, (h.rd.below hb).more hb.size⟩
set_option linter.unusedSimpArgs false in
theorem rMany_nil (r c : Int) (A : Option Addr) (n k : Nat) (w : World) : Calls Tryz.prog 9 #[.pointer none, mval r c (.slice A n k)] w (RetMy 1 0 0 [] w) := by
  have hz := row_new2 w (.cells #[.int .i64 r, .int .i64 c, .slice A n k] 33) zrow
  have hb : Below w.heap.size w ((w.alloc (.cells #[.int .i64 r, .int .i64 c, .slice A n k] 33)).alloc zrow) := (below_new w _).new (Nat.le_refl _) _
  have HZ := Lib.hid hz
  have HB := Lib.hid hb
  obtain ⟨z0, z1, z2, zf⟩ := box3 hz
  have zf0 := zf 0
  have zf1 := zf 1
  have zf2 := zf 2
  clear hz hb zf
  go_enter Tryz.func9, Tryz.ntmps9
  go_wp2
  obtain ⟨q0, q1, q2, -⟩ := box3 (set3c (u := .int .i64 0) (v := .int .i64 0) (s := .slice none 0 0) HZ.out)
  refine bodyPost_ret (v := .tuple #[mval 0 0 (.slice none 0 0), .int .i64 1]) (by simp [results, Tryz.results9, go_sem, q0, q1, q2]) rfl ?_
  exact ⟨none, 0, rfl, lst_nil _ _ _, HB.out⟩
set_option linter.unusedSimpArgs false in
set_option maxHeartbeats 32000000 in
theorem rMany_all {B b n : Nat} {S : El} {ti : Bool} (r c : Int) (Ab : Option Addr) (l : List C) (cap : Nat) (w : World) (h : rHas w B b n S ti) (hf : finTo S.E n) (hp : Perm n S.o) (hn : n ≤ 64) (hlt : ltCs l) (hrd : Reads w w.heap.size Ab (nums l)) :
    Calls Tryz.prog 9 #[.pointer (some ⟨b, 0, none⟩), mval r c (.slice Ab l.length cap)] w (RetMy (manE n S r c l) (manR n S r c l r) (manR n S r c l c) (manL n S r c l) w) := by
  obtain ⟨er, her⟩ : ∃ er, er = manE n S r c l := ⟨_, rfl⟩
  obtain ⟨eR, heR⟩ : ∃ eR, eR = manR n S r c l r := ⟨_, rfl⟩
  obtain ⟨eC, heC⟩ : ∃ eC, eC = manR n S r c l c := ⟨_, rfl⟩
  obtain ⟨eL, heL⟩ : ∃ eL, eL = manL n S r c l := ⟨_, rfl⟩
  rw [← her, ← heR, ← heC, ← heL]
  have HE4 := Lib.hid (fun (h4 : ¬ (okM r c l.length && (r == (n : Int))) = true) => (show er = 4 ∧ eR = 0 ∧ eC = 0 ∧ eL = [] from by
    have e : manE n S r c l = 4 := by unfold manE; rw [if_neg h4]
    rw [her, heR, heC, heL]; unfold manR manL; rw [e]; exact ⟨rfl, rfl, rfl, rfl⟩))
  have HE5 := Lib.hid (fun (h4 : (okM r c l.length && (r == (n : Int))) = true) (h5 : badAt l < l.length) => (show er = 5 ∧ eR = 0 ∧ eC = 0 ∧ eL = [] from by
    have e : manE n S r c l = 5 := by unfold manE; rw [if_pos h4, if_pos h5]
    rw [her, heR, heC, heL]; unfold manR manL; rw [e]; exact ⟨rfl, rfl, rfl, rfl⟩))
  have HE6 := Lib.hid (fun (h4 : (okM r c l.length && (r == (n : Int))) = true) (h5 : ¬ badAt l < l.length) (h6 : manJ n c.toNat S l < c.toNat) => (show er = 6 ∧ eR = 0 ∧ eC = 0 ∧ eL = [] from by
    have e : manE n S r c l = 6 := by unfold manE; rw [if_pos h4, if_neg h5, if_pos h6]
    rw [her, heR, heC, heL]; unfold manR manL; rw [e]; exact ⟨rfl, rfl, rfl, rfl⟩))
  have HE0 := Lib.hid (fun (h4 : (okM r c l.length && (r == (n : Int))) = true) (h5 : ¬ badAt l < l.length) (h6 : ¬ manJ n c.toNat S l < c.toNat) => (show er = 0 ∧ eR = r ∧ eC = c ∧ eL = (List.range (n * c.toNat)).map (fun q => manX n c.toNat S l (q % c.toNat) (q / c.toNat)) from by
    have e : manE n S r c l = 0 := by unfold manE; rw [if_pos h4, if_neg h5, if_neg h6]
    rw [her, heR, heC, heL]; unfold manR manL; rw [e]; exact ⟨rfl, rfl, rfl, rfl⟩))
  obtain ⟨-, -, -, -, -, -, -, -, c5⟩ := h.cells
  have hb0 : Below w.heap.size w ((w.alloc (.cells #[.int .i64 r, .int .i64 c, .slice Ab l.length cap] 33)).alloc zrow) := (below_new w _).new (Nat.le_refl _) _
  have K1 := Lib.hid (show KQ w ((w.alloc (.cells #[.int .i64 r, .int .i64 c, .slice Ab l.length cap] 33)).alloc zrow) B b n S ti r c Ab l cap from
    ⟨hb0, h.below hb0, row_alloc (heap_alloc_new w _), row_new2 w _ _, (hrd.below hb0).more hb0.size⟩)
  have HF := Lib.hid hf
  have HP := Lib.hid hp
  have HN := Lib.hid hn
  have HLt := Lib.hid hlt
  have HCh := Lib.hid (fun V => rCheck_c r c Ab l.length cap V)
  obtain ⟨W1, hW1⟩ : ∃ W1, W1 = (w.alloc (.cells #[.int .i64 r, .int .i64 c, .slice Ab l.length cap] 33)).alloc zrow := ⟨_, rfl⟩
  rw [← hW1] at K1
  have HW1 := Lib.hid hW1
  have cm := (K1.out.x.cells)
  obtain ⟨-, -, -, -, -, -, -, -, c5'⟩ := cm
  clear h hf hp hn hlt hrd hb0 her heR heC heL hW1 c5
  go_enter Tryz.func9, Tryz.ntmps9
  go_upto_region 1 with fail
  rw [← HW1.out]
  clear HW1
  go_upto_region 3 with fail
  obtain ⟨x0, x1, x2, -⟩ := box3 K1.out.bx
  obtain ⟨ok, hok⟩ : ∃ ok, ok = okM r c l.length := ⟨_, rfl⟩
  rw [← hok] at HCh
  have HOk := Lib.hid hok
  clear c5' hok
  go_cut [33] (fun s wx => s = .bool (!(ok && (r == (n : Int)))) ∧ KQ w wx B b n S ti r c Ab l cap)
  case first =>
    have hV := (Below.refl W1.heap.size W1).drew
    have HKx := Lib.hid (fun (V : World) (hV : Below W1.heap.size W1 V) => box3 (K1.out.below hV).bx)
    have HC2 := Lib.hid (fun (V : World) (hV : Below W1.heap.size W1 V) => (show Calls Tryz.prog 33 #[mval r c (.slice Ab l.length cap)] V (fun e w' => e = .returned (.int .i64 (if ok then 0 else 4)) ∧ Below W1.heap.size W1 w') from
      (HCh.out V).mono fun e w' ⟨he, hb⟩ => ⟨he, hV.trans (hb.mono hV.size)⟩))
    have HS2 := Lib.hid (fun (V : World) (hV : Below W1.heap.size W1 V) => (show Calls Tryz.prog 34 #[.pointer (some ⟨b, 0, none⟩)] V (fun e w' => e = .returned (.int .i64 (n : Nat)) ∧ Below W1.heap.size W1 w') from
      (rSize_c V (K1.out.below hV).x).mono fun e w' ⟨he, hw⟩ => ⟨he, hw ▸ hV⟩))
    clear x0 x1 x2
    obtain ⟨x0, x1, x2, -⟩ := HKx.out _ hV
    cases ok
    · simp only [Bool.false_eq_true, if_false] at HC2
      refine wp_region_any (by kernel_rfl) ?_
      refine wpAny_one (i := 0) rfl (by decide +kernel) rfl ?_
      go_simp
      refine wpAny_one (i := 1) rfl (by decide +kernel) rfl ?_
      go_simp
      refine (HC2.out _ hV).mono ?_
      rintro e V ⟨rfl, hV2⟩
      refine wpAny_one (i := 2) rfl (by decide +kernel) rfl ?_
      go_simp
      refine wpAny_one (i := 3) rfl (by decide +kernel) rfl ?_
      go_simp
      refine wpAny_skip (i := 4) rfl (by kernel_rfl) (by kernel_rfl) (by kernel_rfl) (fun _ _ _ h => h) rfl ?_
      simp only [Act.put, List.setIfInBounds_toArray, List.set_cons_zero, List.set_cons_succ]
      refine wpAny_skip (i := 5) rfl (by kernel_rfl) (by kernel_rfl) (by kernel_rfl) (fun _ _ _ h => h) rfl ?_
      simp only [Act.put, List.setIfInBounds_toArray, List.set_cons_zero, List.set_cons_succ]
      refine wpAny_skip (i := 6) rfl (by kernel_rfl) (by kernel_rfl) (by kernel_rfl) (fun _ _ _ h => h) rfl ?_
      simp only [Act.put, List.setIfInBounds_toArray, List.set_cons_zero, List.set_cons_succ]
      refine wpAny_skip (i := 7) rfl (by kernel_rfl) (by kernel_rfl) (by kernel_rfl) (fun _ _ _ h => h) rfl ?_
      simp only [Act.put, List.setIfInBounds_toArray, List.set_cons_zero, List.set_cons_succ]
      refine wpAny_skip (i := 8) rfl (by kernel_rfl) (by kernel_rfl) (by kernel_rfl) (fun _ _ _ h => h) rfl ?_
      simp only [Act.put, List.setIfInBounds_toArray, List.set_cons_zero, List.set_cons_succ]
      refine wpAny_one (i := 9) rfl (by decide +kernel) rfl ?_
      go_simp
      refine wpAny_done (by decide +kernel) ?_ _
      go_wp2
      go_meet
      case rel => exact ⟨rfl, K1.out.below hV2⟩
    · simp only [if_true] at HC2
      go_region_with (first
        | (go_at_call 33; (with_reducible refine (HC2.out _ ?_).mono ?_); (repeat (first | with_reducible assumption | with_reducible refine Below.drew ?_ | with_reducible exact Below.refl _ _)); (rintro e V ⟨rfl, hV⟩); (obtain ⟨x0, x1, x2, -⟩ := HKx.out _ hV))
        | (go_at_call 34; (with_reducible refine (HS2.out _ ?_).mono ?_); (repeat (first | with_reducible assumption | with_reducible refine Below.drew ?_ | with_reducible exact Below.refl _ _)); (rintro e V ⟨rfl, hV⟩); (obtain ⟨x0, x1, x2, -⟩ := HKx.out _ hV)))
      all_goals
        go_wp2
        go_meet
        case rel => exact ⟨rfl, K1.out.below hV⟩
  case rest =>
    obtain ⟨h33, hk2⟩ := hcut
    rename World => W2
    have K2 := Lib.hid hk2
    clear hk2 x0 x1 x2 K1 HCh
    cases hs : (ok && (r == (n : Int)))
    · rw [hs] at h33
      have h33 : u33 = .bool true := h33
      subst h33
      have HB4 := Lib.hid (HE4.out (by rw [← HOk.out, hs]; decide))
      obtain ⟨z0, z1, z2, zf⟩ := box3 K2.out.bz
      have zf0 := zf 0
      have zf1 := zf 1
      have zf2 := zf 2
      clear zf hs
      go_wp2
      obtain ⟨q0, q1, q2, -⟩ := box3 (set3c (u := .int .i64 0) (v := .int .i64 0) (s := .slice none 0 0) K2.out.bz)
      refine bodyPost_ret (v := .tuple #[mval 0 0 (.slice none 0 0), .int .i64 4]) (by simp [results, Tryz.results9, go_sem, q0, q1, q2]) rfl ?_
      rw [HB4.out.1, HB4.out.2.1, HB4.out.2.2.1, HB4.out.2.2.2]
      exact ⟨none, 0, rfl, lst_nil _ _ _, ((K2.out.bel.setCell (Nat.le_succ _) _).setCell (Nat.le_succ _) _).setCell (Nat.le_succ _) _⟩
    · rw [hs] at h33
      have h33 : u33 = .bool false := h33
      subst h33
      have H4 := Lib.hid (show (okM r c l.length && (r == (n : Int))) = true by rw [← HOk.out]; exact hs)
      have hs' := H4.out
      rw [Bool.and_eq_true] at hs'
      have hrn : r = (n : Int) := by simpa using hs'.2
      obtain ⟨-, -, h3, h4, h5⟩ := okM_iff.1 hs'.1
      obtain ⟨cols, hcols⟩ : ∃ k : Nat, c = (k : Int) := ⟨c.toNat, by omega⟩
      subst hrn hcols
      rw [← Int.natCast_mul] at h5
      have hLM : l.length = n * cols := by omega
      obtain ⟨M, hM⟩ : ∃ M, M = l.length := ⟨_, rfl⟩
      have hcn : cols ≤ 64 := by omega
      have HC := Lib.hid hcn
      have HLM := Lib.hid hLM
      have hM4 : M ≤ 4096 := by rw [hM, hLM]; exact prod_small HN.out hcn
      have HM4 := Lib.hid hM4
      have HMl := Lib.hid hM
      clear hs hs' h3 h4 h5 hLM hcn HE4
      obtain ⟨x0, x1, x2, -⟩ := box3 K2.out.bx
      rw [← hM] at x2
      clear hM
      go_wp2
      go_loopw [6] (fun iv wr => ∃ k d : Nat, k ≤ M ∧ iv = .int .i64 (k : Nat) ∧ Hid (∀ i u, i < k → l[i]? = some u → pFinite u = true) ∧ wr = W2.drewN d) (fun iv _ => M - (intOf iv).toNat)
      case atStart => exact ⟨0, 0, Nat.zero_le _, rfl, Lib.hid (fun i u h => by omega), rfl⟩
      case round =>
        obtain ⟨k, d, hk, rfl, hfk, rfl⟩ := hrel
        have hkb : (k : Int) + 1 ≤ 4097 := by have := HM4.out; omega
        by_cases hlt : k < M
        · have hlti : (k : Int) < (M : Int) := Int.ofNat_lt.2 hlt
          obtain ⟨z, hz⟩ := some_of_lt (l := l) (k := k) (by rw [← HMl.out]; exact hlt)
          have hv : (nums l)[k]? = some (.complex .f64 z.1 z.2) := by simp [nums, hz]
          obtain ⟨ad, rfl, -, hcell⟩ := K2.out.rd.at_ hv
          have hlz := HLt.out z (List.mem_of_getElem? hz)
          have HFz := Lib.hid (fun V => (show Calls Tryz.prog 35 #[.complex .f64 z.1 z.2] V (RetB (pFinite z) V) from by
            have h := rFinite_c z.1 z.2 hlz.1 hlz.2 V
            rw [pFin_cn] at h; exact h))
          have HZa := Lib.hid hz
          obtain ⟨gf, hgf⟩ : ∃ gf, gf = pFinite z := ⟨_, rfl⟩
          rw [← hgf] at HFz
          have HGf := Lib.hid hgf
          clear hz hv hgf hlz
          go_wp2_with fail
          refine (HFz.out _).mono ?_
          rintro e w' ⟨d2, rfl, rfl⟩
          cases gf
          · have HB5 := Lib.hid (HE5.out H4.out (by
              have h1 := badAt_of hfk.out HZa.out HGf.out.symm
              rw [h1, ← HMl.out]; exact hlt))
            have KE := Lib.hid (K2.out.below (below_drewN (Below.refl _ _) (d + d2)))
            clear x0 x1 x2 hcell
            obtain ⟨z0, z1, z2, zf⟩ := box3 KE.out.bz
            have zf0 := zf 0
            have zf1 := zf 1
            have zf2 := zf 2
            clear zf
            go_wp2
            obtain ⟨q0, q1, q2, -⟩ := box3 (set3c (u := .int .i64 0) (v := .int .i64 0) (s := .slice none 0 0) KE.out.bz)
            refine bodyPost_ret (v := .tuple #[mval 0 0 (.slice none 0 0), .int .i64 5]) (by simp [results, Tryz.results9, go_sem, q0, q1, q2]) rfl ?_
            rw [HB5.out.1, HB5.out.2.1, HB5.out.2.2.1, HB5.out.2.2.2]
            exact ⟨none, 0, rfl, lst_nil _ _ _, ((KE.out.bel.setCell (Nat.le_succ _) _).setCell (Nat.le_succ _) _).setCell (Nat.le_succ _) _⟩
          go_wp2
          go_roundw
          case rel => exact ⟨k + 1, d + d2, hlt, by go_num, Lib.hid (fun i u hi hu => by
            by_cases e : i = k
            · subst e
              have : z = u := Option.some.inj (HZa.out.symm.trans hu)
              rw [← this]; exact HGf.out.symm
            · exact hfk.out i u (by omega) hu), rfl⟩
          case measure => simp [intOf]; omega
        · have e : M = k := by omega
          subst e
          have HFl := Lib.hid (show ∀ z ∈ l, pFinite z = true from fun z hz => by
            obtain ⟨i, hi, rfl⟩ := List.mem_iff_getElem.1 hz
            exact hfk.out i _ (by rw [HMl.out]; exact hi) (List.getElem?_eq_getElem hi))
          have HNb := Lib.hid (show ¬ badAt l < l.length from fun hb => by
            have h1 : (!pFinite l[badAt l]) = true := List.findIdx_getElem (w := hb)
            rw [HFl.out _ (List.getElem_mem _)] at h1
            cases h1)
          have K3 := Lib.hid (K2.out.below (below_drewN (Below.refl _ _) d))
          generalize W2.drewN d = W3 at K3 ⊢
          have hw64 : wrap64 ((n : Int) * (cols : Int)) = (M : Int) := by
            rw [← Int.natCast_mul, ← HLM.out, ← HMl.out]; unfold wrap64; have := HM4.out; omega
          have HBl := Lib.hid (Blank_of n cols M HM4.out hw64 W3)
          clear hkb hfk hw64 K2 x0 x1 x2
          obtain ⟨x0, x1, x2, -⟩ := box3 K3.out.bx
          rw [← HMl.out] at x2
          go_wp2_with fail
          refine HBl.out.mono ?_
          rintro e W4 ⟨g, rfl, hgr, hgl, hb⟩
          have hbn := below_new W4 (.cells #[.int .i64 (n : Nat), .int .i64 (cols : Nat), .slice (some ⟨g, 0, none⟩) M M] 33)
          have hg4 := row_lt hgr
          have HMo0 := Lib.hid (show MoS W3 (W4.alloc (.cells #[.int .i64 (n : Nat), .int .i64 (cols : Nat), .slice (some ⟨g, 0, none⟩) M M] 33)) W4.heap.size g M n cols (manyF cols (manX n cols S l) 0 0) from
            { bel := hb.trans (hbn.mono hb.size)
              box := heap_alloc_new W4 _
              row := noughts_row (by rw [mk_nums]; exact row_keep hbn hgr) (manyF cols (manX n cols S l) 0 0) (fun q => by unfold manyF; rw [if_neg (fun h => by rcases h with h | ⟨_, h⟩ <;> exact absurd h (Nat.not_lt_zero _))])
              lo := hgl
              lob := hb.size
              ne := by omega })
          have hcb : (cols : Int) ≤ 64 := by have := HC.out; omega
          clear hgr hgl hb hbn hg4 HBl x0 x1 x2
          go_wp2
          go_loopw [8, 9, 10, 11, 12, 13] (fun jv _ _ _ _ _ wr => ∃ j : Nat, j ≤ cols ∧ jv = .int .i64 (j : Nat) ∧ MoS W3 wr W4.heap.size g M n cols (manyF cols (manX n cols S l) j 0) ∧ Hid (∀ q, q < j → solOk n S (colM n cols l q) = true)) (fun jv _ _ _ _ _ _ => cols - (intOf jv).toNat)
          case atStart => exact ⟨0, Nat.zero_le _, rfl, HMo0.out, Lib.hid (fun q h => by omega)⟩
          case round =>
            clear HMo0
            obtain ⟨j, hj, rfl, hmo, hokj⟩ := hrel
            rename World => wj
            have HMo := Lib.hid hmo
            have Kj := Lib.hid (K3.out.below hmo.bel)
            have hjb : (j : Int) + 1 ≤ 65 := by omega
            obtain ⟨t0, t1, t2, -⟩ := box3 Kj.out.bx
            rw [← HMl.out] at t2
            clear hmo
            by_cases hlt : j < cols
            · have hlti : (j : Int) < (cols : Int) := Int.ofNat_lt.2 hlt
              have hcol := rCol_c n cols Ab l cap j wj HN.out HC.out HLM.out hlt Kj.out.rd HLt.out
              rw [← HMl.out] at hcol
              obtain ⟨cl, hcl⟩ : ∃ cl, cl = colM n cols l j := ⟨_, rfl⟩
              rw [show ((List.range n).map fun i => ent l cols i j) = cl from hcl.symm] at hcol
              have hclf : ∀ z ∈ cl, pFinite z = true := fun z hz => by
                rw [hcl] at hz
                unfold colM at hz
                obtain ⟨i, hi, rfl⟩ := List.mem_map.1 hz
                have hm := List.mem_of_getElem? (at_ok (l := l) (rows := n) (cols := cols) HLM.out (List.mem_range.1 hi) hlt)
                unfold ent
                rw [fin_cn (HFl.out _ hm)]
                exact HFl.out _ hm
              have hcll : cl.length = n := by rw [hcl]; exact colM_len _ _ _ _
              have HXj := Lib.hid (show ∀ i, manX n cols S l j i = solX (lowE S) (uppE S) S.o (bOf cl) n i from fun i => by rw [hcl]; rfl)
              have HCol := Lib.hid hcol
              have HClf := Lib.hid hclf
              have HCll := Lib.hid hcll
              have HCl := Lib.hid hcl
              clear hcol hclf hcll hcl
              go_wp2_with fail
              refine HCol.out.mono ?_
              rintro e W5 ⟨s, zs, rfl, hz, hlz, hown, hb⟩
              have ez : zs = cl := exact_of hz HClf.out
              subst ez
              obtain ⟨Ac, kc, rfl, hrc, -, -⟩ := own_reads hown
              have K5 := Lib.hid (Kj.out.below hb)
              have HMo5 := Lib.hid (HMo.out.below hb)
              have HSv := rSolve_run Ac zs kc W5 K5.out.x HF.out HP.out HN.out HCll.out HClf.out hlz hrc
              cases hso : solOk n S zs
              · rw [hso] at HSv
                simp only [Bool.false_eq_true, if_false] at HSv
                have HS := Lib.hid HSv
                have HB6 := Lib.hid (HE6.out H4.out HNb.out (by
                  simp only [Int.toNat_natCast]
                  rw [manJ_of hlt hokj.out (by rw [← HCl.out]; exact hso)]; exact hlt))
                clear hz hlz hown hrc hb HSv t0 t1 t2 HCol hso
                go_wp2_with fail
                refine HS.out.mono ?_
                rintro e W6 ⟨s6, rfl, -, hb⟩
                have KE := Lib.hid (K5.out.below hb)
                clear hb
                obtain ⟨z0, z1, z2, zf⟩ := box3 KE.out.bz
                have zf0 := zf 0
                have zf1 := zf 1
                have zf2 := zf 2
                clear zf
                go_wp2
                obtain ⟨q0, q1, q2, -⟩ := box3 (set3c (u := .int .i64 0) (v := .int .i64 0) (s := .slice none 0 0) KE.out.bz)
                refine bodyPost_ret (v := .tuple #[mval 0 0 (.slice none 0 0), .int .i64 6]) (by simp [results, Tryz.results9, go_sem, q0, q1, q2]) rfl ?_
                rw [HB6.out.1, HB6.out.2.1, HB6.out.2.2.1, HB6.out.2.2.2]
                exact ⟨none, 0, rfl, lst_nil _ _ _, ((KE.out.bel.setCell (Nat.le_succ _) _).setCell (Nat.le_succ _) _).setCell (Nat.le_succ _) _⟩
              rw [hso] at HSv
              simp only [if_true] at HSv
              have HS := Lib.hid HSv
              have HOkj := Lib.hid (show solOk n S (colM n cols l j) = true by rw [← HCl.out]; exact hso)
              clear hz hlz hown hrc hb HSv t0 t1 t2 HCol hso
              go_wp2_with fail
              refine HS.out.mono ?_
              rintro e W6 hr
              obtain ⟨s6, rfl, hown6, hb⟩ := hr
              have hsl : (solL n S zs).length = n := by simp [solL]
              rw [hsl] at hown6
              obtain ⟨As, ks, rfl, -, -, -⟩ := own_reads hown6
              have HOw6 := Lib.hid hown6
              have HMo6 := Lib.hid (HMo5.out.below hb)
              have hg5 := row_lt HMo5.out.row.x
              have HG5 := Lib.hid hg5
              clear hown6 hb hsl K5 HMo5 HS Kj hg5
              have hnb : (n : Int) ≤ 64 := by have := HN.out; omega
              go_wp2
              go_loopw [13] (fun iv wr => ∃ i : Nat, i ≤ n ∧ iv = .int .i64 (i : Nat) ∧ MoS W3 wr W4.heap.size g M n cols (manyF cols (manX n cols S l) j i) ∧ wr.ownsRow W5.heap.size 42 1 (.slice As n ks) n (nums (solL n S zs))) (fun iv _ => n - (intOf iv).toNat)
              case atStart => exact ⟨0, Nat.zero_le _, rfl, HMo6.out, HOw6.out⟩
              case round =>
                obtain ⟨i, hi, rfl, hmo, hrs⟩ := hrel
                rename World => wi
                have HMi := Lib.hid hmo
                have HRs := Lib.hid hrs
                have hib : (i : Int) + 1 ≤ 65 := by omega
                obtain ⟨t0, t1, -, -⟩ := box3 (K3.out.below hmo.bel).bx
                obtain ⟨-, -, u2, -⟩ := box3 hmo.box
                clear hmo hrs
                by_cases hlt2 : i < n
                · have hlti2 : (i : Int) < (n : Int) := Int.ofNat_lt.2 hlt2
                  obtain ⟨z, hz⟩ := some_of_lt (l := solL n S zs) (k := i) (by simp [solL]; exact hlt2)
                  have hv : (nums (solL n S zs))[i]? = some (.complex .f64 z.1 z.2) := by simp [nums, hz]
                  have hrd := Reads.of_own HRs.out
                  have hzx : z = manX n cols S l j i := by
                    unfold solL at hz
                    rw [List.getElem?_map, List.getElem?_range hlt2] at hz
                    rw [HXj.out i]; exact (Option.some.inj hz).symm
                  obtain ⟨q, hq⟩ : ∃ q, q = i * cols + j := ⟨_, rfl⟩
                  have HOn := Lib.hid (show ∀ V : World, V.ownsRow W5.heap.size 42 1 (.slice As n ks) n (nums (solL n S zs)) → (V.setCell ⟨g, q, none⟩ (.complex .f64 z.1 z.2)).ownsRow W5.heap.size 42 1 (.slice As n ks) n (nums (solL n S zs)) from fun V h => ownsRow_setCell_below h (a := ⟨g, q, none⟩) HG5.out _)
                  obtain ⟨ad, rfl, -, hcell⟩ := hrd.at_ hv
                  have hi1 : (i + 1) * cols ≤ n * cols := Nat.mul_le_mul_right _ hlt2
                  rw [Nat.add_mul, Nat.one_mul, ← HLM.out, ← HMl.out] at hi1
                  have hqk : q < M := by omega
                  have hqi : (q : Int) < (M : Int) := Int.ofNat_lt.2 hqk
                  have hk4 := HM4.out
                  have hm1 : IntKind.i64.wrap (IntKind.i64.wrap ((i : Int) * (cols : Int)) + (j : Int)) = (q : Int) := by
                    rw [show IntKind.i64.wrap ((i : Int) * (cols : Int)) = ((i * cols : Nat) : Int) from wrapI (by rw [Int.natCast_mul]) (by omega)]
                    exact wrapI (by rw [hq, Int.natCast_add]) (by omega)
                  have cq := HMi.out.row.cell hqk
                  have fq := HMi.out.row.frozen q
                  have hzl : ltC z := by rw [hzx, HXj.out i]; exact sol_lt hlt2
                  have HNx := Lib.hid (((HMi.out.below (Below.refl _ _).drew).put hqk hzl).congr (F' := manyF cols (manX n cols S l) j (i + 1)) (fun p _ => by rw [manyF_next (manX n cols S l) hlt, ← hq, hzx]))
                  have HRd := Lib.hid (HOn.out wi.drew HRs.out)
                  clear hz hv hrd hzx hi1 hq hqk hk4 hzl
                  go_wp2_with fail
                  go_still_tail 13, (by kernel_rfl)
                  change wpList _ _ _ _ _ wi.drew
                  have d1f : wi.drew.frozen? ⟨g, q, none⟩ = false := fq
                  obtain ⟨v1, d1⟩ : ∃ v, wi.drew.cell? ⟨g, q, none⟩ = some v := ⟨_, cq⟩
                  go_wp2
                  go_roundw
                  case rel => exact ⟨i + 1, hlt2, by go_num, HNx.out, HRd.out⟩
                  case measure => simp [intOf]; omega
                · have e : i = n := by omega
                  subst e
                  clear t1 u2
                  go_wp2
                  go_roundw
                  case rel => exact ⟨j + 1, hlt, by go_num, HMi.out.congr (fun q hq => manyF_col (manX i cols S l) (by rw [← HLM.out, ← HMl.out]; exact hq)), Lib.hid (fun q hq => by
                    by_cases e : q = j
                    · subst e; exact HOkj.out
                    · exact hokj.out q (by omega))⟩
                  case measure => simp [intOf]; omega
            · have e : j = cols := by omega
              subst e
              obtain ⟨u0, u1, u2, -⟩ := box3 HMo.out.box
              obtain ⟨z0, z1, z2, zf⟩ := box3 Kj.out.bz
              have zf0 := zf 0
              have zf1 := zf 1
              have zf2 := zf 2
              have hgw : g ≠ w.heap.size + 1 := fun e => by
                have h1 := HMo.out.lo
                have h2 := row_lt K3.out.bz
                omega
              have HGw := Lib.hid hgw
              clear zf hgw
              go_wp2
              obtain ⟨q0, q1, q2, -⟩ := box3 (set3c (u := .int .i64 (n : Nat)) (v := .int .i64 (j : Nat)) (s := .slice (some ⟨g, 0, none⟩) M M) Kj.out.bz)
              refine bodyPost_ret (v := .tuple #[mval n j (.slice (some ⟨g, 0, none⟩) M M), .int .i64 0]) (by simp [results, Tryz.results9, go_sem, q0, q1, q2]) rfl ?_
              have hE := HE0.out H4.out HNb.out (by simp only [Int.toNat_natCast]; exact manJ_all hokj.out)
              simp only [Int.toNat_natCast] at hE
              rw [hE.1, hE.2.1, hE.2.2.1, hE.2.2.2]
              have hll : ((List.range (n * j)).map fun q => manX n j S l (q % j) (q / j)).length = M := by rw [HMl.out, HLM.out]; simp
              refine ⟨some ⟨g, 0, none⟩, M, by rw [hll], ?_, ?_⟩
              · have h := (HMo.out.congr (F' := fun q => manX n j S l (q % j) (q / j)) (fun q hq => (manyF_all (manX n j S l) (by rw [← HLM.out, ← HMl.out]; exact hq)).symm)).row
                have h2 := ((h.other (p := ⟨w.heap.size + 1, 0, none⟩) (fun e => HGw.out e.symm) (.int .i64 (n : Nat))).other (p := ⟨w.heap.size + 1, 1, none⟩) (fun e => HGw.out e.symm) (.int .i64 (j : Nat))).other (p := ⟨w.heap.size + 1, 2, none⟩) (fun e => HGw.out e.symm) (.slice (some ⟨g, 0, none⟩) M M)
                refine rowF_lst h2 hll (by have := HMo.out.lo; have := K3.out.bel.size; omega) HM4.out ?_
                rw [HMl.out, HLM.out]
              · exact ((Kj.out.bel.setCell (Nat.le_succ _) _).setCell (Nat.le_succ _) _).setCell (Nat.le_succ _) _
end Go.Proofs.YtglmmidhkpomgaaGreat
