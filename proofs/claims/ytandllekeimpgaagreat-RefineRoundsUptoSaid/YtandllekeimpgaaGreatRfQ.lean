/- Layer 11: the document's part: the walk. -/
import Derived.Test.YtandllekeimpgaaGreatRfP
import Derived.Test.YtandllekeimpgaaGreatMX1
import Derived.Deep.DeepCutAuto
import Derived.Deep.RegionHeld3
import Derived.Deep.RegionLaw
import Derived.Deep.AppendLies
namespace Go.Proofs.YtandllekeimpgaaGreat
open Go.RowKit Fl Ieee
set_option maxRecDepth 20000
attribute [local go_sem] run_store_float run_store_complex Fl.order_self Fl.order_self' Fl.order_eq Fl.order_ne Fl.order_lt Fl.order_gt
/-- Append on a row of one's own: whatever is handed in. -/
theorem wpList_append_any {P : Program} {w : World} {ops : Array Oper} {rest : List Oper} {o : Oper} {a : Act} {Q : Exit → Act → World → Prop} (hgd : o.guard = none) (s x : Operand) (t : TypeId)
    (ho : o.op = .call { callee := .builtin .append, args := #[s, x], argTypes := #[t, t] })
    (base : Nat) (e : TypeId) (i : TypeInfo) (z : Value) (bytes : Nat) (ht : P.underlying t = some (.slice e)) (hi : P.info? e = some i) (hz : i.zero = some z)
    (hsize : i.size = 1) (hby : i.bytes = bytes) (hzs : z.cells.size = 1)
    (v : Value) (n : Nat) (xs : List Value) (hs : a.eval s = v) (hown : w.ownsRow base e 1 v n xs)
    (A : Option Addr) (m c : Nat) (news : List Value) (hx : a.eval x = .slice A m c) (hnone : A = none → m = 0 ∧ c = 0) (hl : news.length = m) (hnews : ∀ ad, A = some ad → ∀ j u, news[j]? = some u → w.cell? (ad.add j) = some u) (h1 : ∀ u ∈ news, u.oneCell' = true)
    (h63 : n + m ≤ maxLen) (hbytes : (n + m) * bytes ≤ 140737488355328) (hbase : base ≤ w.heap.size)
    (h : ∀ v' w', w'.ownsRow base e 1 v' (n + m) (xs ++ news) → w.grownBy w' v.ownBlock → wpList P ops Q rest (a.put o.dst v') w') :
    wpList P ops Q (o :: rest) a w := by
  rcases A with _ | ad
  · obtain ⟨rfl, rfl⟩ := hnone rfl
    have hn : news = [] := List.eq_nil_of_length_eq_zero hl
    subst hn
    exact wpList_append_none hgd s x t ho base e i 1 ht hi v n xs hs hown hx (h v w (by rw [List.append_nil]; exact hown) ⟨rfl, rfl, rfl, Nat.le_refl _, fun _ _ _ => rfl⟩)
  · exact wpList_append_stays _ hgd s x t ho base e i z bytes ht hi hz hsize hby hzs v n xs hs hown ad m c news hx (by rw [hl, Nat.mul_one]) (hnews ad rfl) h1 h63 hbytes hbase (fun v' w' h2 h3 _ => h v' w' h2 h3)
theorem reads_cells {W : World} {B : Nat} {A : Option Addr} {xs : List Value} (h : Reads W B A xs) {ad : Addr} (e : A = some ad) : ∀ j u, xs[j]? = some u → W.cell? (ad.add j) = some u := by
  intro j u hu
  obtain ⟨ad', e', -, hc⟩ := h.at_ hu
  rw [e] at e'
  rw [Option.some.inj e']; exact hc
theorem none_len {W : World} {B : Nat} {A : Option Addr} {E : List Nat} {ce : Nat} (h : Reads W B A (reals E)) (hn : A = none → ce = 0) : A = none → E.length = 0 ∧ ce = 0 := fun h0 => by
  refine ⟨?_, hn h0⟩
  rcases Nat.eq_zero_or_pos E.length with h1 | h1
  · exact h1
  · obtain ⟨ad, e, -⟩ := h (by simp [reals]; exact h1)
    rw [h0] at e; cases e
set_option maxHeartbeats 1600000 in
theorem rpart_c (b : Nat) (sc : Bool) (ps : List (Nat × Nat)) (v : Value) (w : World) (hb : b < 18446744073709551616) (hps : ∀ p ∈ ps, p.1 < 18446744073709551616 ∧ p.2 < 18446744073709551616 ∧ cn .f64 p.1 = p.1 ∧ cn .f64 p.2 = p.2) (hn : ps.length ≤ 1000) (hP : PairsAt w v ps) :
    Calls Tryz.prog 65 #[.float .f64 b, v, .bool sc] w (RetTs (partV b sc ps) w) := by
  obtain ⟨A, cap, rfl⟩ := hP.form
  obtain ⟨i0, hi0, hz0, hz1, hz2⟩ := info_parts infoReal
  obtain ⟨n, hN⟩ : ∃ n, n = ps.length := ⟨_, rfl⟩
  rw [← hN]
  have hn9 : n ≤ 1000 := by omega
  have HN := Lib.hid hN
  have HP := Lib.hid hP
  have HPs := Lib.hid hps
  have HLn := Lib.hid hn
  have HTw := Lib.hid (show Two w (w.alloc (.cells #[.float .f64 b] 61)) (.slice (some ⟨w.heap.size, 0, none⟩) 1 1) (.slice none 0 0) [b] [] from
    { t := own_one (Nat.le_refl _) (heap_alloc_new _ _)
      e := World.ownsRow_nil _ _ _ _
      apart := fun g _ h => by cases h
      wt := fun y hy => by rw [List.mem_singleton.1 hy]; exact hb
      we := fun y hy => by cases hy
      bel := below_new _ _ })
  clear hN hP hps hn hb
  go_enter Tryz.func65, Tryz.ntmps65
  go_wp2_with fail
  go_loopw [7, 8, 9] (fun tv ev iv wr => ∃ (i : Nat) (T E : List Nat), i ≤ n ∧ iv = .int .i64 (i : Nat) ∧ Hid (Two w wr tv ev T E) ∧ Hid (T.map (cn .f64) = tms b sc ps i ∧ E.map (cn .f64) = ers sc ps i)) (fun _ _ iv _ => n - (intOf iv).toNat)
  case atStart => exact ⟨0, [b], [], Nat.zero_le _, rfl, HTw, Lib.hid ⟨rfl, rfl⟩⟩
  case round =>
    obtain ⟨i, T, E, hi, rfl, HT, HM⟩ := hrel
    rename World => wr
    by_cases hin : i < n
    · obtain ⟨p, hp⟩ := some_of_lt (l := ps) (k := i) (by rw [← HN.out]; exact hin)
      obtain ⟨g, cap', e1, hg, c0, c1⟩ := (HP.out.below HT.out.bel).at_ i p hp
      have hin' : (i : Int) < n := by omega
      injection e1 with e1 e2 e3
      subst e1
      have hpp := HPs.out p (List.mem_of_getElem? hp)
      have HTm := Lib.hid (fun neg V (hV : Below wr.heap.size wr V) => (term_c neg p.1 p.2 hpp.1 hpp.2.1 hpp.2.2.1 hpp.2.2.2 V).mono (R' := fun e w' => ∃ x y, e = .returned (.tuple #[.float .f64 x, .float .f64 y]) ∧ cn .f64 x = tmP neg p.1 p.2 ∧ cn .f64 y = tmE neg p.1 p.2 ∧ x < 18446744073709551616 ∧ y < 18446744073709551616 ∧ Below wr.heap.size wr w') fun e w' ⟨x, y, h1, h2, h3, h4, h5, h6⟩ => ⟨x, y, h1, h2, h3, h4, h5, hV.trans (h6.mono hV.size)⟩)
      have HK := Lib.hid (fun V (hV : Below wr.heap.size wr V) => (show V.cell? ⟨g, i * 2, none⟩ = some (.float .f64 p.1) ∧ V.cell? ⟨g, i * 2 + 1, none⟩ = some (.float .f64 p.2) from ⟨(hV.cell (p := ⟨g, i * 2, none⟩) hg).trans c0, (hV.cell (p := ⟨g, i * 2 + 1, none⟩) hg).trans c1⟩))
      have hbr : Below wr.heap.size wr wr := Below.refl _ _
      have HPp := Lib.hid (show ps.getD i (0, 0) = p by rw [List.getD_eq_getElem?_getD, hp]; rfl)
      clear hp hpp hg e2 e3
      cases sc
      · go_upto_region 6 with fail
        refine wp_region_held_drew (S := fun V => V.cell? ⟨g, i * 2, none⟩ = some (.float .f64 p.1) ∧ V.cell? ⟨g, i * 2 + 1, none⟩ = some (.float .f64 p.2)) (by kernel_rfl) ⟨c0, c1⟩ (fun hS0 => ?_)
        refine wpAnyH_take (i := 0) (v := ?vv0) rfl (by kernel_rfl) (by kernel_rfl) (by kernel_rfl) (fun _ _ _ h => h) (Or.inl ⟨rfl, ?yy0⟩) hS0 ?_
        case yy0 => (intro w' hSw; (try dsimp only at hSw); obtain ⟨y0, y1⟩ := hSw; go_simp; first | done | with_reducible rfl)
        simp only [Act.put]
        refine wpAnyH_take (i := 1) (v := ?vv1) rfl (by kernel_rfl) (by kernel_rfl) (by kernel_rfl) (fun _ _ _ h => h) (Or.inl ⟨rfl, ?yy1⟩) hS0 ?_
        case yy1 => (intro w' hSw; (try dsimp only at hSw); obtain ⟨y0, y1⟩ := hSw; go_simp; first | done | with_reducible rfl)
        simp only [Act.put]
        refine wpAnyH_take (i := 2) (v := ?vv2) rfl (by kernel_rfl) (by kernel_rfl) (by kernel_rfl) (fun _ _ _ h => h) (Or.inl ⟨rfl, ?yy2⟩) hS0 ?_
        case yy2 => (intro w' hSw; (try dsimp only at hSw); obtain ⟨y0, y1⟩ := hSw; go_simp; first | done | with_reducible rfl)
        simp only [Act.put]
        refine wpAnyH_take (i := 3) (v := undef) rfl (by kernel_rfl) (by kernel_rfl) (by kernel_rfl) (fun _ _ _ h => h) (Or.inr ⟨rfl, rfl⟩) hS0 ?_
        simp only [Act.put]
        refine wpAnyH_take (i := 4) (v := undef) rfl (by kernel_rfl) (by kernel_rfl) (by kernel_rfl) (fun _ _ _ h => h) (Or.inr ⟨rfl, rfl⟩) hS0 ?_
        simp only [Act.put]
        refine wpAnyH_take (i := 5) (v := undef) rfl (by kernel_rfl) (by kernel_rfl) (by kernel_rfl) (fun _ _ _ h => h) (Or.inr ⟨rfl, rfl⟩) hS0 ?_
        simp only [Act.put]
        refine wpAnyH_take (i := 6) (v := ?vv6) rfl (by kernel_rfl) (by kernel_rfl) (by kernel_rfl) (fun _ _ _ h => h) (Or.inl ⟨rfl, ?yy6⟩) hS0 ?_
        case yy6 => (intro w' hSw; (try dsimp only at hSw); obtain ⟨y0, y1⟩ := hSw; go_simp; first | done | with_reducible rfl)
        simp only [Act.put]
        refine wpAnyH_take (i := 7) (v := ?vv7) rfl (by kernel_rfl) (by kernel_rfl) (by kernel_rfl) (fun _ _ _ h => h) (Or.inl ⟨rfl, ?yy7⟩) hS0 ?_
        case yy7 => (intro w' hSw; (try dsimp only at hSw); obtain ⟨y0, y1⟩ := hSw; go_simp; first | done | with_reducible rfl)
        simp only [Act.put]
        refine wpAnyH_take (i := 8) (v := ?vv8) rfl (by kernel_rfl) (by kernel_rfl) (by kernel_rfl) (fun _ _ _ h => h) (Or.inl ⟨rfl, ?yy8⟩) hS0 ?_
        case yy8 => (intro w' hSw; (try dsimp only at hSw); obtain ⟨y0, y1⟩ := hSw; go_simp; first | done | with_reducible rfl)
        simp only [Act.put]
        refine wpAnyH_take (i := 9) (v := ?vv9) rfl (by kernel_rfl) (by kernel_rfl) (by kernel_rfl) (fun _ _ _ h => h) (Or.inl ⟨rfl, ?yy9⟩) hS0 ?_
        case yy9 => (intro w' hSw; (try dsimp only at hSw); obtain ⟨y0, y1⟩ := hSw; go_simp; first | done | with_reducible rfl)
        simp only [Act.put]
        refine wpAnyH_take (i := 10) (v := ?vv10) rfl (by kernel_rfl) (by kernel_rfl) (by kernel_rfl) (fun _ _ _ h => h) (Or.inl ⟨rfl, ?yy10⟩) hS0 ?_
        case yy10 => (intro w' hSw; (try dsimp only at hSw); obtain ⟨y0, y1⟩ := hSw; go_simp; first | done | with_reducible rfl)
        simp only [Act.put]
        refine wpAnyH_take (i := 11) (v := ?vv11) rfl (by kernel_rfl) (by kernel_rfl) (by kernel_rfl) (fun _ _ _ h => h) (Or.inl ⟨rfl, ?yy11⟩) hS0 ?_
        case yy11 => (intro w' hSw; (try dsimp only at hSw); obtain ⟨y0, y1⟩ := hSw; go_simp; first | done | with_reducible rfl)
        simp only [Act.put]
        refine wpAnyH_take (i := 12) (v := ?vv12) rfl (by kernel_rfl) (by kernel_rfl) (by kernel_rfl) (fun _ _ _ h => h) (Or.inl ⟨rfl, ?yy12⟩) hS0 ?_
        case yy12 => (intro w' hSw; (try dsimp only at hSw); obtain ⟨y0, y1⟩ := hSw; go_simp; first | done | with_reducible rfl)
        simp only [Act.put]
        refine wpAnyH_take (i := 13) (v := ?vv13) rfl (by kernel_rfl) (by kernel_rfl) (by kernel_rfl) (fun _ _ _ h => h) (Or.inl ⟨rfl, ?yy13⟩) hS0 ?_
        case yy13 => (intro w' hSw; (try dsimp only at hSw); obtain ⟨y0, y1⟩ := hSw; go_simp; first | done | with_reducible rfl)
        simp only [Act.put]
        refine wpAnyH_take (i := 14) (v := ?vv14) rfl (by kernel_rfl) (by kernel_rfl) (by kernel_rfl) (fun _ _ _ h => h) (Or.inl ⟨rfl, ?yy14⟩) hS0 ?_
        case yy14 => (intro w' hSw; (try dsimp only at hSw); obtain ⟨y0, y1⟩ := hSw; go_simp; first | done | with_reducible rfl)
        simp only [Act.put]
        refine wpAnyH_take (i := 15) (v := ?vv15) rfl (by kernel_rfl) (by kernel_rfl) (by kernel_rfl) (fun _ _ _ h => h) (Or.inl ⟨rfl, ?yy15⟩) hS0 ?_
        case yy15 => (intro w' hSw; (try dsimp only at hSw); obtain ⟨y0, y1⟩ := hSw; go_simp; first | done | with_reducible rfl)
        simp only [Act.put]
        refine wpAnyH_take (i := 16) (v := ?vv16) rfl (by kernel_rfl) (by kernel_rfl) (by kernel_rfl) (fun _ _ _ h => h) (Or.inl ⟨rfl, ?yy16⟩) hS0 ?_
        case yy16 => (intro w' hSw; (try dsimp only at hSw); obtain ⟨y0, y1⟩ := hSw; go_simp; first | done | with_reducible rfl)
        simp only [Act.put]
        refine wpAnyH_ready (rs := [17]) (by kernel_rfl) (by simp) ?_
        refine AllReadyH.cons rfl (fun K hK => ?_) AllReadyH.nil
        go_simp
        refine (HTm.out true _ (Below.refl _ _).drew).mono ?_
        rintro e W1 ⟨t, u, rfl, ht, hu, htl, hul, hb1⟩
        refine hK.out _ _ (HK.out W1 hb1) (fun hS1 => ?_)
        clear hK K hS0
        refine wpAnyH_take (i := 18) (v := ?vv18) rfl (by kernel_rfl) (by kernel_rfl) (by kernel_rfl) (fun _ _ _ h => h) (Or.inl ⟨rfl, ?yy18⟩) hS1 ?_
        case yy18 => (intro w' hSw; go_simp; first | done | with_reducible rfl)
        simp only [Act.put]
        refine wpAnyH_take (i := 19) (v := ?vv19) rfl (by kernel_rfl) (by kernel_rfl) (by kernel_rfl) (fun _ _ _ h => h) (Or.inl ⟨rfl, ?yy19⟩) hS1 ?_
        case yy19 => (intro w' hSw; go_simp; first | done | with_reducible rfl)
        simp only [Act.put]
        refine wpAnyH_take (i := 20) (v := ?vv20) rfl (by kernel_rfl) (by kernel_rfl) (by kernel_rfl) (fun _ _ _ h => h) (Or.inl ⟨rfl, ?yy20⟩) hS1 ?_
        case yy20 => (intro w' hSw; go_simp; first | done | with_reducible rfl)
        simp only [Act.put]
        refine wpAnyH_take (i := 21) (v := ?vv21) rfl (by kernel_rfl) (by kernel_rfl) (by kernel_rfl) (fun _ _ _ h => h) (Or.inl ⟨rfl, ?yy21⟩) hS1 ?_
        case yy21 => (intro w' hSw; go_simp; first | done | with_reducible rfl)
        simp only [Act.put]
        refine wpAnyH_take (i := 22) (v := ?vv22) rfl (by kernel_rfl) (by kernel_rfl) (by kernel_rfl) (fun _ _ _ h => h) (Or.inl ⟨rfl, ?yy22⟩) hS1 ?_
        case yy22 => (intro w' hSw; go_simp; first | done | with_reducible rfl)
        simp only [Act.put]
        refine wpAnyH_done (by kernel_rfl) ?_ _
        have HT2 := Lib.hid (HT.out.below hb1)
        have HTu := Lib.hid (And.intro ht (And.intro hu (And.intro htl hul)))
        clear c0 c1 hS1
        have hTl : T.length = i + 1 := by have := congrArg List.length HM.out.1; rw [tms_len] at this; simpa using this
        have hEl : E.length = i := by have := congrArg List.length HM.out.2; rw [ers_len] at this; simpa using this
        have HSz := Lib.hid (show T.length + 1 ≤ maxLen ∧ (T.length + 1) * 8 ≤ 140737488355328 ∧ E.length + 1 ≤ maxLen ∧ (E.length + 1) * 8 ≤ 140737488355328 by have := HLn.out; have := HN.out; unfold maxLen; omega)
        clear hb1 ht hu htl hul hTl hEl
        go_upto_region 8 with (at_builtin; refine wpList_append_stays _ rfl (.tmp 45) (.tmp 47) 89 rfl w.heap.size 61 i0 (.float .f64 0) 8 Tryz.underlying89 hi0 hz0 hz1 hz2 rfl _ _ _ rfl (HT2.out.t.alloc _) ⟨W1.heap.size, 0, none⟩ 1 1 [.float .f64 t] rfl rfl (cell_one_new _ _ _) (by intro u hu; simp at hu; subst hu; rfl) HSz.out.1 HSz.out.2.1 (Nat.le_trans HT2.out.bel.size (below_new _ _).size) ?_; intro v' w2 hown1 hgrow1 hat1; have HT3 := Lib.hid (HT2.out.t1 HTu.out.2.2.1 (below_new _ _) hown1 hgrow1 hat1); clear hown1 hgrow1 hat1)
        go_wp2_with (at_builtin; refine wpList_append_stays _ rfl (.tmp 49) (.tmp 51) 89 rfl w.heap.size 61 i0 (.float .f64 0) 8 Tryz.underlying89 hi0 hz0 hz1 hz2 rfl _ _ _ rfl (HT3.out.e.alloc _) ⟨w2.heap.size, 0, none⟩ 1 1 [.float .f64 u] rfl rfl (cell_one_new _ _ _) (by intro u hu; simp at hu; subst hu; rfl) HSz.out.2.2.1 HSz.out.2.2.2 (Nat.le_trans HT3.out.bel.size (below_new _ _).size) ?_; intro v'' w3 hown1 hgrow1 hat1; have HT4 := Lib.hid (HT3.out.e1 HTu.out.2.2.2 (below_new _ _) hown1 hgrow1 hat1); clear hown1 hgrow1 hat1)
        go_roundw
        case rel =>
          refine ⟨i + 1, T ++ [t], E ++ [u], hin, by go_num, HT4, Lib.hid ⟨?_, ?_⟩⟩
          · rw [List.map_append, HM.out.1]
            show _ ++ [cn .f64 t] = tms b false ps i ++ [_]
            rw [HTu.out.1, HPp.out, show (!false || i % 2 == 0) = true from rfl]
          · rw [List.map_append, HM.out.2]
            show _ ++ [cn .f64 u] = ers false ps i ++ [_]
            rw [HTu.out.2.1, HPp.out, show (!false || i % 2 == 0) = true from rfl]
        case measure => simp [intOf]; omega
      · have hpar : ((i : Int).tmod 2 == 0) = (!true || i % 2 == 0) := by
          have h := Int.tmod_eq_emod_of_nonneg (show (0 : Int) ≤ (i : Int) by omega) (b := 2)
          rw [h, Bool.not_true, Bool.false_or, Bool.eq_iff_iff]
          simp; omega
        have HPar := Lib.hid hpar
        clear hpar
        go_upto_region 6 with fail
        go_region_held3 (fun V => V.cell? ⟨g, i * 2, none⟩ = some (.float .f64 p.1) ∧ V.cell? ⟨g, i * 2 + 1, none⟩ = some (.float .f64 p.2))
          (exact HK.out _ (by repeat (first | with_reducible assumption | with_reducible refine Below.drew ?_)))
          (first
          | (go_at_call 102; (refine (HTm.out ((i : Int).tmod 2 == 0) _ ?_).mono ?_); (repeat (first | with_reducible assumption | with_reducible refine Below.drew ?_)); (rintro e W1 ⟨t, u, rfl, ht, hu, htl, hul, hb1⟩); (obtain ⟨z1, z2⟩ := HK.out W1 hb1)))
        have HT2 := Lib.hid (HT.out.below hb1)
        have HTu := Lib.hid (And.intro ht (And.intro hu (And.intro htl hul)))
        clear c0 c1 z1 z2
        have hTl : T.length = i + 1 := by have := congrArg List.length HM.out.1; rw [tms_len] at this; simpa using this
        have hEl : E.length = i := by have := congrArg List.length HM.out.2; rw [ers_len] at this; simpa using this
        have HSz := Lib.hid (show T.length + 1 ≤ maxLen ∧ (T.length + 1) * 8 ≤ 140737488355328 ∧ E.length + 1 ≤ maxLen ∧ (E.length + 1) * 8 ≤ 140737488355328 by have := HLn.out; have := HN.out; unfold maxLen; omega)
        clear hb1 ht hu htl hul hTl hEl
        go_upto_region 8 with (at_builtin; refine wpList_append_stays _ rfl (.tmp 45) (.tmp 47) 89 rfl w.heap.size 61 i0 (.float .f64 0) 8 Tryz.underlying89 hi0 hz0 hz1 hz2 rfl _ _ _ rfl (HT2.out.t.alloc _) ⟨W1.heap.size, 0, none⟩ 1 1 [.float .f64 t] rfl rfl (cell_one_new _ _ _) (by intro u hu; simp at hu; subst hu; rfl) HSz.out.1 HSz.out.2.1 (Nat.le_trans HT2.out.bel.size (below_new _ _).size) ?_; intro v' w2 hown1 hgrow1 hat1; have HT3 := Lib.hid (HT2.out.t1 HTu.out.2.2.1 (below_new _ _) hown1 hgrow1 hat1); clear hown1 hgrow1 hat1)
        go_wp2_with (at_builtin; refine wpList_append_stays _ rfl (.tmp 49) (.tmp 51) 89 rfl w.heap.size 61 i0 (.float .f64 0) 8 Tryz.underlying89 hi0 hz0 hz1 hz2 rfl _ _ _ rfl (HT3.out.e.alloc _) ⟨w2.heap.size, 0, none⟩ 1 1 [.float .f64 u] rfl rfl (cell_one_new _ _ _) (by intro u hu; simp at hu; subst hu; rfl) HSz.out.2.2.1 HSz.out.2.2.2 (Nat.le_trans HT3.out.bel.size (below_new _ _).size) ?_; intro v'' w3 hown1 hgrow1 hat1; have HT4 := Lib.hid (HT3.out.e1 HTu.out.2.2.2 (below_new _ _) hown1 hgrow1 hat1); clear hown1 hgrow1 hat1)
        go_roundw
        case rel =>
          refine ⟨i + 1, T ++ [t], E ++ [u], hin, by go_num, HT4, Lib.hid ⟨?_, ?_⟩⟩
          · rw [List.map_append, HM.out.1]
            show _ ++ [cn .f64 t] = tms b true ps i ++ [_]
            rw [HTu.out.1, HPp.out, HPar.out]
          · rw [List.map_append, HM.out.2]
            show _ ++ [cn .f64 u] = ers true ps i ++ [_]
            rw [HTu.out.2.1, HPp.out, HPar.out]
        case measure => simp [intOf]; omega
    · have e : i = n := by omega
      subst e
      have HTl := Lib.hid (show T.length = i + 1 ∧ E.length = i from ⟨by have := congrArg List.length HM.out.1; rw [tms_len] at this; simpa using this, by have := congrArg List.length HM.out.2; rw [ers_len] at this; simpa using this⟩)
      have htt := HT.out.t
      have hee := HT.out.e
      obtain ⟨At, ct, rfl, rt, ft, nt⟩ := own_readsT htt
      obtain ⟨Ae, ce, rfl, re, fe, ne⟩ := own_readsT hee
      have HSe := Lib.hid (RSumErr_c At T ct wr HT.out.wt (by have := HTl.out.1; omega) rt)
      have HRe := Lib.hid (And.intro re ne)
      clear htt hee rt re ft fe nt ne hi hin
      go_wp2_with fail
      refine HSe.out.mono ?_
      rintro e W1 ⟨s, v, errs, rfl, hs, hsl, hwe, hel, hown, hb1⟩
      have HS := Lib.hid hs
      have HB1 := Lib.hid (HT.out.bel.trans (hb1.mono HT.out.bel.size))
      have HEl := Lib.hid hel
      have HAe := Lib.hid (none_len HRe.out.1 HRe.out.2)
      have HRe1 := Lib.hid ((HRe.out.1.below hb1).more hb1.size)
      have hrr := hown
      obtain ⟨Ar, cr, rfl, rr, fr, nr⟩ := own_readsT hrr
      have HRr := Lib.hid (none_len rr nr)
      have HRd := Lib.hid rr
      have HSz := Lib.hid (show 0 + errs.length ≤ maxLen ∧ (0 + errs.length) * 8 ≤ 140737488355328 ∧ 0 + errs.length + E.length ≤ maxLen ∧ (0 + errs.length + E.length) * 8 ≤ 140737488355328 by have := HTl.out; unfold maxLen; omega)
      have HSl := Lib.hid hsl
      clear hs hsl hwe hel hown hb1 hrr rr fr nr HRe HSe
      go_upto_region 12 with (at_builtin; refine wpList_append_any rfl (.tmp 58) (.tmp 59) 89 rfl w.heap.size 61 i0 (.float .f64 0) 8 Tryz.underlying89 hi0 hz0 hz1 hz2 rfl _ 0 [] rfl (World.ownsRow_nil _ _ _ _) Ar errs.length cr (reals errs) rfl HRr.out (by simp [reals]) (fun ad e => reads_cells HRd.out e) (by intro u hu; simp [reals] at hu; obtain ⟨z, -, rfl⟩ := hu; rfl) HSz.out.1 HSz.out.2.1 HB1.out.size ?_; intro v1 W2 hown1 hgrow1)
      have HG1 := Lib.hid (show Below W1.heap.size W1 W2 from (Below.refl _ _).grown hgrow1 (Nat.le_refl _) (fun g hg => by cases hg))
      have HO1 := Lib.hid hown1
      have HRe2 := Lib.hid ((HRe1.out.below HG1.out).more HG1.out.size)
      clear hown1 hgrow1
      go_wp2_with (at_builtin; refine wpList_append_any rfl (.tmp 61) (.tmp 62) 89 rfl w.heap.size 61 i0 (.float .f64 0) 8 Tryz.underlying89 hi0 hz0 hz1 hz2 rfl _ _ _ rfl HO1.out Ae E.length ce (reals E) rfl HAe.out (by simp [reals]) (fun ad e => reads_cells HRe2.out e) (by intro u hu; simp [reals] at hu; obtain ⟨z, -, rfl⟩ := hu; rfl) HSz.out.2.2.1 HSz.out.2.2.2 (Nat.le_trans HB1.out.size HG1.out.size) ?_; intro v2 W3 hown1 hgrow1)
      have HB3 := Lib.hid (show Below w.heap.size w W3 from (HB1.out.trans (HG1.out.mono HB1.out.size)).grown hgrow1 (Nat.le_trans HB1.out.size HG1.out.size) (fun g hg => (HO1.out.lt g hg).1))
      have er : ([] : List Value) ++ reals errs ++ reals E = reals (errs ++ E) := by simp [reals]
      rw [er] at hown1
      have hl5 : 0 + errs.length + E.length = (errs ++ E).length := by simp
      obtain ⟨L5, hL5⟩ : ∃ L5, L5 = 0 + errs.length + E.length := ⟨_, rfl⟩
      rw [← hL5] at hown1 HSz
      rw [← hL5] at hl5
      obtain ⟨A5, c5, rfl, r5, -, -⟩ := own_readsT hown1
      have HSu := Lib.hid (RSum_c A5 (errs ++ E) c5 W3 (by rw [← hl5]; exact HSz.out.2.2.2) r5)
      rw [← hl5] at HSu
      clear hown1 hgrow1 er r5 hl5 hL5
      go_wp2_with fail
      refine HSu.out.mono ?_
      rintro e W4 ⟨f, n, rfl, hf, hfl, rfl⟩
      have HF := Lib.hid hf
      clear hf HSu
      go_wp2_with fail
      refine upon_add _ _ _ _ ?_
      intro r1 n1 h1
      go_wp2
      go_ret
      refine ⟨_, rfl, ?_, h1.2, below_drewN HB3.out _⟩
      have g1 := congrArg Prod.fst HS.out
      have g2 := congrArg Prod.snd HS.out
      unfold partV tsum
      rw [h1.1, HF.out, ← HN.out, ← HM.out.1, ← HM.out.2, ← g1, ← g2, ← List.map_append]
end Go.Proofs.YtandllekeimpgaaGreat
