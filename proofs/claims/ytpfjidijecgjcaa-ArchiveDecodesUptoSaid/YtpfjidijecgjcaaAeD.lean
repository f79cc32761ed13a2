/- Layer 31: solutions held apart. -/
import Derived.Test.YtpfjidijecgjcaaAeA
import Derived.Test.YtpfjidijecgjcaaAeF
import Derived.Test.YtpfjidijecgjcaaAdI
import Derived.Deep.DeepCutAuto
import Derived.Deep.RegionHeld3
import Derived.Deep.RegionLaw
import Derived.Maps.AppendAt
namespace Go.Proofs.Ytpfjidijecgjcaa
open Go.RowKit Fl Ieee
set_option maxRecDepth 20000
attribute [local go_sem] run_store_float run_store_complex
theorem Apart_none (w : World) : Calls Try.prog 43 #[.slice none 0 0] w fun e w' => e = .returned (.bool true) ∧ Below w.heap.size w w' := by
  go_enter Try.func43, Try.ntmps43
  go_wp2
  go_loopw [3] (fun iv W => iv = .int .i64 0 ∧ w = W) (fun _ _ => 0)
  case atStart => exact ⟨rfl, rfl⟩
  case round =>
    obtain ⟨rfl, rfl⟩ := hrel
    go_wp2
    go_loopw [6] (fun iv W => iv = .int .i64 0 ∧ w = W) (fun _ _ => 0)
    case atStart => exact ⟨rfl, rfl⟩
    case round =>
      obtain ⟨rfl, rfl⟩ := hrel
      go_wp2
      go_loopw [9] (fun iv W => iv = .int .i64 0 ∧ w = W) (fun _ _ => 0)
      case atStart => exact ⟨rfl, rfl⟩
      case round =>
        obtain ⟨rfl, rfl⟩ := hrel
        go_wp2
        go_ret
        exact ⟨rfl, Below.refl _ _⟩
def listsN (L : List SolV) : List (List C) := L.flatMap fun q => [q.s.vs, q.s.ys]
theorem listsV_len (L : List SolV) : (listsV L).length = L.length * 2 := by
  induction L with
  | nil => rfl
  | cons q L ih => show (_ ++ listsV L).length = _; rw [List.length_append, ih]; simp; omega
theorem listsN_len (L : List SolV) : (listsN L).length = L.length * 2 := by
  induction L with
  | nil => rfl
  | cons q L ih => show (_ ++ listsN L).length = _; rw [List.length_append, ih]; simp; omega
theorem lists_own {W : World} {B : Nat} {L : List SolV} (h : ∀ q ∈ L, OwnV W B q) : ∀ (k : Nat) (S : Value) (zs : List C), (listsV L)[k]? = some S → (listsN L)[k]? = some zs → W.ownsRow B 60 1 S zs.length (nums zs) := by
  induction L with
  | nil => intro k S zs h1; simp [listsV] at h1
  | cons q L ih =>
    intro k S zs h1 h2
    have e1 : listsV (q :: L) = [q.x1, q.x2] ++ listsV L := rfl
    have e2 : listsN (q :: L) = [q.s.vs, q.s.ys] ++ listsN L := rfl
    rw [e1] at h1
    rw [e2] at h2
    match k, h1, h2 with
    | 0, h1, h2 =>
      have a : q.x1 = S := by simpa using h1
      have b : q.s.vs = zs := by simpa using h2
      rw [← a, ← b]; exact (h q (by simp)).o1
    | 1, h1, h2 =>
      have a : q.x2 = S := by simpa using h1
      have b : q.s.ys = zs := by simpa using h2
      rw [← a, ← b]; exact (h q (by simp)).o2
    | k + 2, h1, h2 => exact ih (fun q hq => h q (by simp [hq])) k S zs (by simpa using h1) (by simpa using h2)
theorem lists_take {L : List SolV} {i : Nat} {q : SolV} (h : L[i]? = some q) : listsV (L.take (i + 1)) = listsV (L.take i) ++ [q.x1, q.x2] := by
  have hk := lt_of_some h
  have e : L[i] = q := by rw [List.getElem?_eq_getElem hk] at h; exact Option.some.inj h
  rw [List.take_succ_eq_append_getElem hk, e, listsV_snoc]
theorem apart_of {L : List Value} (h : L.Pairwise Aprt) : ∀ (j k : Nat) (S S' : Value), L[j]? = some S → L[k]? = some S' → j ≠ k → S.ownBlock = none ∨ S.ownBlock ≠ S'.ownBlock := by
  intro j k S S' h1 h2 hne
  have l1 := lt_of_some h1
  have l2 := lt_of_some h2
  have e1 : L[j] = S := by rw [List.getElem?_eq_getElem l1] at h1; exact Option.some.inj h1
  have e2 : L[k] = S' := by rw [List.getElem?_eq_getElem l2] at h2; exact Option.some.inj h2
  cases hb : S.ownBlock with
  | none => exact .inl rfl
  | some b =>
    refine .inr (fun e => ?_)
    have key := List.pairwise_iff_getElem.1 h
    rcases Nat.lt_or_ge j k with hjk | hjk
    · have := key j k l1 l2 hjk
      rw [e1, e2] at this
      exact this b hb e.symm
    · have := key k j l2 l1 (by omega)
      rw [e1, e2] at this
      exact this b e.symm hb
set_option maxHeartbeats 4000000 in
theorem ApartS_c (L : List SolV) (v : Value) (B : Nat) (w : World) (h : SolsOwn w B v L) (hn : L.length ≤ 9000) (hB : B ≤ w.heap.size) (hl : ∀ q ∈ L, q.s.vs.length ≤ 1000 ∧ q.s.ys.length ≤ 1000) :
    Calls Try.prog 14 #[v] w fun e w' => e = .returned (.bool true) ∧ Below B w w' := by
  obtain ⟨iS, his, hs0, hs1, hs2⟩ := info_parts infoSl
  have HS := Lib.hid h
  have HLl := Lib.hid hl
  have HBw := Lib.hid hB
  obtain ⟨A, c, hv⟩ : ∃ A c, v = .slice A L.length c := by
    rcases h.row.2 with ⟨h, h'⟩ | ⟨g, cap, cur, h, -⟩
    · exact ⟨none, 0, by rw [h, h']⟩
    · exact ⟨_, _, h⟩
  subst hv
  obtain ⟨n, hN⟩ : ∃ n, n = L.length := ⟨_, rfl⟩
  rw [← hN] at HS hn ⊢
  have HN := Lib.hid hN
  clear h hl hB hN
  go_enter Try.func14, Try.ntmps14
  go_wp2
  go_loopw [3, 4] (fun lv iv wr => ∃ i : Nat, i ≤ n ∧ iv = .int .i64 (i : Nat) ∧ Hid (wr.ownsRow w.heap.size 37 1 lv (i * 2) (listsV (L.take i))) ∧ Hid (Below w.heap.size w wr)) (fun _ iv _ => n - (intOf iv).toNat)
  case atStart => exact ⟨0, Nat.zero_le _, rfl, Lib.hid (World.ownsRow_nil _ _ _ _), Lib.hid (Below.refl _ _)⟩
  case round =>
    obtain ⟨i, hi, rfl, HO, HB⟩ := hrel
    rename World => wr
    by_cases hin : i < n
    · have hin' : (i : Int) < n := by omega
      obtain ⟨q, hq⟩ := some_of_lt (l := L) (k := i) (by rw [← HN.out]; exact hin)
      obtain ⟨g, cap, cur, hvs, hbg, hg⟩ : ∃ g cap cur, (Value.slice A n c) = .slice (some ⟨g, 0, none⟩) n cap ∧ B ≤ g ∧ w.heap[g]? = some cur := by
        rcases HS.out.row.2 with ⟨h, h'⟩ | ⟨g, cap, cur, h, h1, h2, -⟩
        · rw [← HN.out] at h'; omega
        · exact ⟨g, cap, _, by rw [h, HN.out], h1, h2⟩
      injection hvs with e1 e2 e3
      clear e2
      subst e1
      subst e3
      obtain ⟨f0, f1, f2⟩ := flatV_at hq
      have hc := HS.out.row.cells (g := g) rfl
      have ha : ∀ k, (⟨g, 0, none⟩ : Addr).add k = ⟨g, k, none⟩ := fun k => by unfold Addr.add; split <;> simp_all
      have c1 := hc _ _ f1
      have c2 := hc _ _ f2
      rw [ha] at c1 c2
      have hlt : g < w.heap.size := block_lt_of_cell c1
      have hqm := HS.out.own q (List.mem_of_getElem? hq)
      obtain ⟨A1, k1, e1, -, -⟩ := reads_ownN hqm.o1
      obtain ⟨A2, k2, e2, -, -⟩ := reads_ownN hqm.o2
      obtain ⟨x1, hx1⟩ : ∃ x1, x1 = q.x1 := ⟨_, rfl⟩
      obtain ⟨x2, hx2⟩ : ∃ x2, x2 = q.x2 := ⟨_, rfl⟩
      have HQ := Lib.hid (show listsV (L.take (i + 1)) = listsV (L.take i) ++ [x1, x2] from by rw [hx1, hx2]; exact lists_take hq)
      rw [← hx1] at c1 e1
      rw [← hx2] at c2 e2
      have HCl := Lib.hid (fun V (hV : Below w.heap.size w V) => (show V.cell? ⟨g, i * 3 + 1, none⟩ = some x1 ∧ V.cell? ⟨g, i * 3 + 2, none⟩ = some x2 from
        ⟨(hV.cell (p := ⟨g, i * 3 + 1, none⟩) hlt).trans c1, (hV.cell (p := ⟨g, i * 3 + 2, none⟩) hlt).trans c2⟩))
      subst e1
      subst e2
      have HSz := Lib.hid (show i * 2 + 2 ≤ maxLen ∧ (i * 2 + 2) * 24 ≤ 140737488355328 from by unfold maxLen; omega)
      clear hi hq hbg hg f0 f1 f2 hc ha c1 c2 hlt hqm hx1 hx2
      go_upto_region 5 with fail
      refine wp_region_noPanic ?_
      refine wp_region_held_drew (S := fun V => Below w.heap.size w V) (by kernel_rfl) HB.out.drew (fun hS0 => ?_)
      refine wpAnyH_take (i := 0) (v := ?vva0) rfl (by kernel_rfl) (by kernel_rfl) (by kernel_rfl) (fun _ _ _ h => h) (Or.inl ⟨rfl, ?yya0⟩) hS0 ?_
      case yya0 => (intro w' hSw; (try dsimp only at hSw); obtain ⟨q0, q1⟩ := HCl.out w' hSw; first | (go_simp; done) | (go_simp; with_reducible rfl) | kernel_rfl)
      simp only [Act.put]
      refine wpAnyH_take (i := 1) (v := ?vva1) rfl (by kernel_rfl) (by kernel_rfl) (by kernel_rfl) (fun _ _ _ h => h) (Or.inl ⟨rfl, ?yya1⟩) hS0 ?_
      case yya1 => (intro w' hSw; (try dsimp only at hSw); obtain ⟨q0, q1⟩ := HCl.out w' hSw; first | (go_simp; done) | (go_simp; with_reducible rfl) | kernel_rfl)
      simp only [Act.put]
      refine wpAnyH_take (i := 2) (v := ?vva2) rfl (by kernel_rfl) (by kernel_rfl) (by kernel_rfl) (fun _ _ _ h => h) (Or.inl ⟨rfl, ?yya2⟩) hS0 ?_
      case yya2 => (intro w' hSw; (try dsimp only at hSw); obtain ⟨q0, q1⟩ := HCl.out w' hSw; first | (go_simp; done) | (go_simp; with_reducible rfl) | kernel_rfl)
      simp only [Act.put]
      refine wpAnyH_take (i := 3) (v := ?vva3) rfl (by kernel_rfl) (by kernel_rfl) (by kernel_rfl) (fun _ _ _ h => h) (Or.inl ⟨rfl, ?yya3⟩) hS0 ?_
      case yya3 => (intro w' hSw; (try dsimp only at hSw); obtain ⟨q0, q1⟩ := HCl.out w' hSw; first | (go_simp; done) | (go_simp; with_reducible rfl) | kernel_rfl)
      simp only [Act.put]
      refine wpAnyH_take (i := 4) (v := ?vva4) rfl (by kernel_rfl) (by kernel_rfl) (by kernel_rfl) (fun _ _ _ h => h) (Or.inl ⟨rfl, ?yya4⟩) hS0 ?_
      case yya4 => (intro w' hSw; (try dsimp only at hSw); obtain ⟨q0, q1⟩ := HCl.out w' hSw; first | (go_simp; done) | (go_simp; with_reducible rfl) | kernel_rfl)
      simp only [Act.put]
      refine wpAnyH_take (i := 5) (v := ?vva5) rfl (by kernel_rfl) (by kernel_rfl) (by kernel_rfl) (fun _ _ _ h => h) (Or.inl ⟨rfl, ?yya5⟩) hS0 ?_
      case yya5 => (intro w' hSw; (try dsimp only at hSw); obtain ⟨q0, q1⟩ := HCl.out w' hSw; first | (go_simp; done) | (go_simp; with_reducible rfl) | kernel_rfl)
      simp only [Act.put]
      refine wpAnyH_take (i := 6) (v := ?vva6) rfl (by kernel_rfl) (by kernel_rfl) (by kernel_rfl) (fun _ _ _ h => h) (Or.inl ⟨rfl, ?yya6⟩) hS0 ?_
      case yya6 => (intro w' hSw; (try dsimp only at hSw); obtain ⟨q0, q1⟩ := HCl.out w' hSw; first | (go_simp; done) | (go_simp; with_reducible rfl) | kernel_rfl)
      simp only [Act.put]
      refine wpAnyH_take (i := 7) (v := ?vva7) rfl (by kernel_rfl) (by kernel_rfl) (by kernel_rfl) (fun _ _ _ h => h) (Or.inl ⟨rfl, ?yya7⟩) hS0 ?_
      case yya7 => (intro w' hSw; (try dsimp only at hSw); obtain ⟨q0, q1⟩ := HCl.out w' hSw; first | (go_simp; done) | (go_simp; with_reducible rfl) | kernel_rfl)
      simp only [Act.put]
      refine wpAnyH_take (i := 8) (v := ?vva8) rfl (by kernel_rfl) (by kernel_rfl) (by kernel_rfl) (fun _ _ _ h => h) (Or.inl ⟨rfl, ?yya8⟩) hS0 ?_
      case yya8 => (intro w' hSw; (try dsimp only at hSw); obtain ⟨q0, q1⟩ := HCl.out w' hSw; first | (go_simp; done) | (go_simp; with_reducible rfl) | kernel_rfl)
      simp only [Act.put]
      refine wpAnyH_take (i := 9) (v := ?vva9) rfl (by kernel_rfl) (by kernel_rfl) (by kernel_rfl) (fun _ _ _ h => h) (Or.inl ⟨rfl, ?yya9⟩) hS0 ?_
      case yya9 => (intro w' hSw; (try dsimp only at hSw); obtain ⟨q0, q1⟩ := HCl.out w' hSw; first | (go_simp; done) | (go_simp; with_reducible rfl) | kernel_rfl)
      simp only [Act.put]
      refine wpAnyH_take (i := 10) (v := ?vva10) rfl (by kernel_rfl) (by kernel_rfl) (by kernel_rfl) (fun _ _ _ h => h) (Or.inl ⟨rfl, ?yya10⟩) hS0 ?_
      case yya10 => (intro w' hSw; (try dsimp only at hSw); obtain ⟨q0, q1⟩ := HCl.out w' hSw; first | (go_simp; done) | (go_simp; with_reducible rfl) | kernel_rfl)
      simp only [Act.put]
      refine wpAnyH_ready (rs := [11]) (by kernel_rfl) (by simp) ?_
      refine AllReadyH.cons rfl (fun K hK => ?_) AllReadyH.nil
      go_simp
      obtain ⟨p1, hp1⟩ : ∃ p1, p1 = q.s.vs.length := ⟨_, rfl⟩
      obtain ⟨p2, hp2⟩ : ∃ p2, p2 = q.s.ys.length := ⟨_, rfl⟩
      rw [← hp1, ← hp2] at HQ ⊢
      obtain ⟨V5, hV5⟩ : ∃ V5, V5 = (wr.alloc (.cells #[.slice A1 p1 k1, .slice A2 p2 k2] 37)).drew := ⟨_, rfl⟩
      have hb5 : Below wr.heap.size wr V5 := by rw [hV5]; exact (below_new _ _).drew
      have htn : ∀ j u, [Value.slice A1 p1 k1, .slice A2 p2 k2][j]? = some u → V5.cell? ((⟨wr.heap.size, 0, none⟩ : Addr).add j) = some u := by rw [hV5]; exact two_new wr _ _ _
      rw [← hV5]
      clear hV5 hp1 hp2
      have hbr5 : Below w.heap.size w V5 := HB.out.trans (hb5.mono HB.out.size)
      refine hK.out _ _ hbr5 (fun hS1 => ?_)
      clear hK K hS0
      have hO5 := own_below HO.out hb5
      refine wpAnyH_ready (rs := [12]) (by kernel_rfl) (by simp) ?_
      refine AllReadyH.cons rfl (fun K hK => ?_) AllReadyH.nil
      simp only [Act.put]
      refine wp_append_whatever rfl 23 (.tmp 11) (.tmp 22) 76 rfl rfl w.heap.size 37 iS (.slice none 0 0) 1 24 Try.underlying76 his hs0 hs1 hs2 rfl (by decide) _ _ _ rfl hO5 (some ⟨wr.heap.size, 0, none⟩) 2 2 [.slice A1 p1 k1, .slice A2 p2 k2] rfl (fun h => by cases h) rfl (fun ad e j u hu => by injection e with e; subst e; exact htn j u hu) (by intro u hu; simp at hu; rcases hu with rfl | rfl <;> rfl) HSz.out.1 HSz.out.2 hbr5.size ?_
      intro v3 W5 hown5 hgrow5
      go_simp
      have hr5 : Below w.heap.size w W5 := hbr5.grown hgrow5 hbr5.size (fun k hk => (hO5.lt k hk).1)
      refine hK.out _ _ hr5 (fun hS2 => ?_)
      clear hK K hS1
      refine wpAnyH_take (i := 13) (v := ?vvb13) rfl (by kernel_rfl) (by kernel_rfl) (by kernel_rfl) (fun _ _ _ h => h) (Or.inl ⟨rfl, ?yyb13⟩) hS2 ?_
      case yyb13 => (intro w' hSw; (try dsimp only at hSw); first | (go_simp; done) | (go_simp; with_reducible rfl) | kernel_rfl)
      go_simp
      refine wpAnyH_done (by kernel_rfl) ?_ _
      refine NoPanic.normal ?_
      have HO5 := Lib.hid (show W5.ownsRow w.heap.size 37 1 v3 ((i + 1) * 2) (listsV (L.take (i + 1))) from by
        rw [HQ.out, Nat.add_mul]; exact hown5)
      have HB5 := Lib.hid hr5
      clear hown5 hgrow5 hr5 hO5 hbr5 hb5 htn hS2
      go_wp2
      go_roundw
      case rel => exact ⟨i + 1, hin, by go_num, HO5, HB5⟩
      case measure => simp [intOf]; omega
    · have e : i = n := by omega
      subst e
      have hown := HO.out
      rw [List.take_of_length_le (by rw [← HN.out]; exact Nat.le_refl _)] at hown
      rcases hown.2 with ⟨h, h'⟩ | ⟨g, cap, cur, h, h1, h2, -⟩
      · have hb := HB
        subst h
        clear hown h' hi
        go_wp2_with fail
        refine (Apart_none wr).mono ?_
        rintro e W2 ⟨rfl, hb2⟩
        have HB2 := Lib.hid ((hb.out.mono HBw.out).trans (hb2.mono (Nat.le_trans HBw.out hb.out.size)))
        go_wp2
        go_ret
        exact ⟨rfl, HB2.out⟩
      · subst h
        have ha : ∀ k, (⟨g, 0, none⟩ : Addr).add k = ⟨g, k, none⟩ := fun k => by unfold Addr.add; split <;> simp_all
        have hown' : ∀ q ∈ L, OwnV wr B q := fun q hq => ⟨own_below (HS.out.own q hq).o1 HB.out, own_below (HS.out.own q hq).o2 HB.out⟩
        have hA : Apt g (listsV L) := ⟨apart_of HS.out.apt, fun k S hk e => by
          have := (listsV_lt HS.out.own (List.mem_of_getElem? hk) e).2
          omega⟩
        have hF : Fam wr B g (listsV L) (listsN L) := ⟨by rw [listsV_len, listsN_len], lists_own hown', fun k S hk => by
          have := hown.cells (g := g) rfl k S hk
          rwa [ha] at this⟩
        have HAp := Lib.hid (Apart_try B g (i * 2) cap (listsV L) _ (listsN L) wr (by rw [listsV_len, ← HN.out]) (by omega) hA hF rfl (Nat.le_trans HBw.out HB.out.size) (fun m hm => by
          obtain ⟨l, hl, rfl⟩ := List.mem_map.1 hm
          unfold listsN at hl
          obtain ⟨q, hq, hl⟩ := List.mem_flatMap.1 hl
          have h3 := HLl.out q hq
          rcases (by simpa using hl : l = q.s.vs ∨ l = q.s.ys) with rfl | rfl
          · omega
          · omega))
        clear hown h1 h2 hi ha hown' hA hF
        go_wp2_with fail
        refine HAp.out.mono ?_
        rintro e W2 ⟨rfl, hb2⟩
        have HB2 := Lib.hid ((HB.out.mono HBw.out).trans hb2)
        go_wp2
        go_ret
        exact ⟨rfl, HB2.out⟩
end Go.Proofs.Ytpfjidijecgjcaa
