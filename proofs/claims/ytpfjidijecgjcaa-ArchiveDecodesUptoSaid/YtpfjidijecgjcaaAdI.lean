/- Layer 31: (archive.Encode): the walk. -/
import Derived.Test.YtpfjidijecgjcaaAdH
import Derived.Deep.DeepCutAuto
namespace Go.Proofs.Ytpfjidijecgjcaa
open Go.RowKit Fl Ieee
set_option maxRecDepth 20000
attribute [local go_sem] run_store_float run_store_complex x_f64bits
theorem two_new (w : World) (x0 x1 : Value) (t : TypeId) : ∀ j u, [x0, x1][j]? = some u → (w.alloc (.cells #[x0, x1] t)).cell? ((⟨w.heap.size, 0, none⟩ : Addr).add j) = some u := by
  intro j u hj
  have hc : ∀ i v, #[x0, x1][i]? = some v → (w.alloc (.cells #[x0, x1] t)).cell? ⟨w.heap.size, i, none⟩ = some v := fun i v hv => by
    simp only [World.cell?, heap_alloc_new]; exact hv
  have hz : (⟨w.heap.size, 0, none⟩ : Addr).add j = ⟨w.heap.size, j, none⟩ := by unfold Addr.add; split <;> simp_all
  rw [hz]
  exact hc j u (by simpa using hj)
theorem own_keepT {w w' : World} {B e e' size n : Nat} {v : Value} {xs : List Value} (h : w.ownsRow B e size v n xs) (he : e ≠ e') (hk : KeepT e' w w') : w'.ownsRow B e size v n xs := by
  refine own_same h (fun k hb => hk.blk k (h.lt k hb).2 (fun cur f => ?_))
  rcases h.2 with ⟨rfl, -⟩ | ⟨q, cap, cur', rfl, -, hq, -⟩
  · cases hb
  · have e1 : q = k := by injection hb
    rw [← e1, hq]
    intro e2
    injection e2 with e2
    injection e2 with _ e3
    exact he e3
theorem encW_end {acc : List SolW} {i : Nat} {a : SolW} {p q : Nat} {L4 L5 l : List Nat} (ha : acc[i]? = some a) (h4 : L4 = preE acc i ++ beB 8 a.w) (h5 : L5 = L4 ++ [p, q]) (hl : l = a.v ++ a.a) (hp : p = a.v.length) (hq : q = a.a.length) (hp6 : p ≤ 64) (hq6 : q ≤ 64) :
    L5 ++ encN l = preE acc (i + 1) := by
  rw [preE_succ ha, h5, h4, hl, encN_app]
  unfold encW
  rw [← hp, ← hq, Nat.mod_eq_of_lt (show p < 256 by omega), Nat.mod_eq_of_lt (show q < 256 by omega)]
  simp
set_option maxHeartbeats 3200000 in
theorem Encode_c (acc : List SolW) (hok : ∀ a ∈ acc, OkW a) (hn : acc.length ≤ 4096) (v : Value) (w : World) (h : SolsAt w w.heap.size v (acc.map toM)) : Calls Try.prog 17 #[v] w (RetEnc acc w) := by
  obtain ⟨i0, hi0, hz0, hz1, hz2⟩ := info_parts infoByte
  have HS := Lib.hid h
  obtain ⟨A, c, rfl, -⟩ := h
  rw [List.length_map] at HS ⊢
  obtain ⟨n, hN⟩ : ∃ n, n = acc.length := ⟨_, rfl⟩
  rw [← hN] at HS ⊢
  have hn1 : n ≤ 4096 := by omega
  have hn2 : ¬ ((n : Int) > 4096) := by omega
  have hwn : IntKind.u64.wrap (n : Int) = (n : Int) := by
    have h2 : IntKind.u64.wrap (n : Int) = (n : Int) % 18446744073709551616 := by simp [IntKind.wrap, IntKind.bits, IntKind.signed]
    rw [h2]; omega
  have HOk := Lib.hid hok
  have HW := Lib.hid (wrong_c (acc.map toM) (.slice A n c) w HS.out (by rw [List.length_map]; omega) (fun s hs => by
    obtain ⟨a, ha, rfl⟩ := List.mem_map.1 hs
    exact (hok a ha).lt) (nar_ok hok) (fun s hs => by
    obtain ⟨a, ha, rfl⟩ := List.mem_map.1 hs
    have h1 := (hok a ha).sv
    have h2 := (hok a ha).sy
    unfold toM
    simp
    omega))
  rw [wrong_ok hok] at HW
  have HN := Lib.hid hN
  clear hok hn hN
  go_enter Try.func17, Try.ntmps17
  go_wp2_with fail
  refine HW.out.mono ?_
  rintro e W1 ⟨rfl, hb1⟩
  have HB1 := Lib.hid hb1
  have HLd := Lib.hid (laidB (B := w.heap.size) (L := []) (.slice none 0 0) n 2 W1 (World.ownsRow_nil _ _ _ _) (by simp) hb1.size (by decide))
  clear hb1 HW
  go_wp2_with fail
  refine HLd.out.mono ?_
  rintro e W2 ⟨v1, rfl, ho1, hb2, -⟩
  have HO1 := Lib.hid (show OwnB W2 w.heap.size v1 (preE acc 0) from by
    have e : preE acc 0 = [] ++ beB 2 n := by unfold preE; rw [HN.out]; simp
    rw [e]; exact ho1)
  have HB2 := Lib.hid (HB1.out.trans hb2)
  clear ho1 hb2 HLd hwn
  go_wp2
  go_loopw [5, 24] (fun bv iv wr => ∃ i : Nat, i ≤ n ∧ iv = .int .i64 (i : Nat) ∧ Hid (OwnB wr w.heap.size bv (preE acc i)) ∧ Hid (Below w.heap.size w wr)) (fun _ iv _ => n - (intOf iv).toNat)
  case atStart => exact ⟨0, Nat.zero_le _, rfl, HO1, HB2⟩
  case round =>
    obtain ⟨i, hi, rfl, HO, HB⟩ := hrel
    rename World => wr
    by_cases hin : i < n
    · have hin' : (i : Int) < n := by omega
      obtain ⟨a, ha⟩ := some_of_lt (l := acc) (k := i) (by rw [← HN.out]; exact hin)
      obtain ⟨g, x1, x2, hA, hlt, h0, h1, h2, h3⟩ := (HS.out.below HB.out).at_ (i := i) (s := toM a) (by rw [List.getElem?_map, ha]; rfl)
      subst hA
      obtain ⟨A1, c1, A2, c2, rfl, rfl, h4, h5, h6, h7⟩ := h3
      have HAi := Lib.hid ha
      have HAk := Lib.hid (HOk.out a (List.mem_of_getElem? ha))
      obtain ⟨W3, hW3⟩ : ∃ W3, W3 = wr.alloc (.cells #[.float .f64 (toM a).om, .slice A1 (toM a).vs.length c1, .slice A2 (toM a).ys.length c2] 39) := ⟨_, rfl⟩
      have hbw : Below wr.heap.size wr W3 := by rw [hW3]; exact below_new _ _
      have HRow3 := Lib.hid (show W3.heap[wr.heap.size]? = some (.cells #[.float .f64 (toM a).om, .slice A1 (toM a).vs.length c1, .slice A2 (toM a).ys.length c2] 39) from by rw [hW3, heap_alloc_new])
      have HSz3 := Lib.hid (show W3.heap.size = wr.heap.size + 1 from by rw [hW3]; simp)
      have HB3 := Lib.hid (HB.out.trans (hbw.mono HB.out.size))
      have HR1 := Lib.hid h4
      have HR2 := Lib.hid h5
      have HBr3 := Lib.hid (hbw.mono HB.out.size)
      have HO3 := Lib.hid (HO.out.below hbw)
      have HLd := Lib.hid (laidB (B := w.heap.size) u5 (toM a).om 8 W3 HO3.out (Nat.le_trans (preE_len HOk.out i (by omega)) (by decide)) HB3.out.size (by decide))
      have H67 := Lib.hid (And.intro h6 h7)
      clear ha h4 h5 h6 h7 hbw hi
      go_wp2_with fail
      rw [← hW3]
      clear hW3 h0 h1 h2 hlt
      refine HLd.out.mono ?_
      rintro e W4 ⟨v2, rfl, ho4, hb4, hk4⟩
      have hrow4 : W4.heap[wr.heap.size]? = some (.cells #[.float .f64 (toM a).om, .slice A1 (toM a).vs.length c1, .slice A2 (toM a).ys.length c2] 39) := by
        rw [hk4.blk _ (by rw [HSz3.out]; exact Nat.lt_succ_self _) (fun cur f => by rw [HRow3.out]; intro e; injection e with e; injection e with _ e2; exact absurd e2 (by decide))]
        exact HRow3.out
      have HRow4 := Lib.hid hrow4
      have q0 : W4.cell? ⟨wr.heap.size, 0, none⟩ = some (.float .f64 (toM a).om) := by rw [cell_of_row _ _ 0 _ _ _ hrow4]; rfl
      have q1 : W4.cell? ⟨wr.heap.size, 1, none⟩ = some (.slice A1 (toM a).vs.length c1) := by rw [cell_of_row _ _ 1 _ _ _ hrow4]; rfl
      have q2 : W4.cell? ⟨wr.heap.size, 2, none⟩ = some (.slice A2 (toM a).ys.length c2) := by rw [cell_of_row _ _ 2 _ _ _ hrow4]; rfl
      have HO4 := Lib.hid ho4
      have HB4 := Lib.hid (HB3.out.trans hb4)
      have HBr4 := Lib.hid (HBr3.out.trans hb4)
      have HK4 := Lib.hid hk4
      obtain ⟨p, hp⟩ : ∃ p, p = (toM a).vs.length := ⟨_, rfl⟩
      obtain ⟨q, hq⟩ : ∃ q, q = (toM a).ys.length := ⟨_, rfl⟩
      have HPq := Lib.hid (And.intro hp hq)
      have hp6 : p ≤ 64 := by rw [hp]; show (a.v.map numW).length ≤ 64; rw [List.length_map]; exact HAk.out.sv
      have hq6 : q ≤ 64 := by rw [hq]; show (a.a.map numW).length ≤ 64; rw [List.length_map]; exact HAk.out.sy
      rw [← hp] at q1 ⊢
      rw [← hq] at q2 ⊢
      clear hrow4 ho4 hb4 hk4 hp hq HLd
      have hwp : IntKind.u8.wrap (p : Int) = (p : Int) := by
        have h2 : IntKind.u8.wrap (p : Int) = (p : Int) % 256 := by simp [IntKind.wrap, IntKind.bits, IntKind.signed]
        rw [h2]; omega
      have hwq : IntKind.u8.wrap (q : Int) = (q : Int) := by
        have h2 : IntKind.u8.wrap (q : Int) = (q : Int) % 256 := by simp [IntKind.wrap, IntKind.bits, IntKind.signed]
        rw [h2]; omega
      obtain ⟨L4, hL4⟩ : ∃ L4, L4 = preE acc i ++ beB 8 (toM a).om := ⟨_, rfl⟩
      rw [← hL4] at HO4
      have HL4 := Lib.hid hL4
      have HSz := Lib.hid (show L4.length ≤ 5000008 ∧ L4.length + 2 ≤ maxLen ∧ (L4.length + 2) * 1 ≤ 140737488355328 from by
        have h1 := preE_len HOk.out i (by omega)
        have h2 : L4.length = (preE acc i).length + 8 := by rw [hL4, List.length_append, beB_len]
        unfold maxLen; omega)
      have HBz := Lib.hid HB4.out.size
      clear hL4
      go_upto_region 12 with (at_builtin; refine wpList_append_stays _ rfl (.tmp 33) (.tmp 42) 22 rfl w.heap.size 5 i0 (.int .u8 0) 1 Try.underlying22 hi0 hz0 hz1 hz2 rfl _ _ _ rfl (HO4.out.alloc _) ⟨W4.heap.size, 0, none⟩ 2 2 [.int .u8 (p : Int), .int .u8 (q : Int)] rfl rfl (two_new _ _ _ _) (by intro u hu; simp at hu; rcases hu with rfl | rfl <;> rfl) HSz.out.2.1 HSz.out.2.2 (Nat.le_trans HBz.out (below_new _ _).size) ?_; intro v3 W5 hown5 hgrow5 hat5)
      have hb5 := below_new W4 (.cells #[.int .u8 (p : Int), .int .u8 (q : Int)] 5)
      have hk5 := (KeepT.below hb5).trans (KeepT.grown (HO4.out.alloc _) hgrow5)
      have hrow5 : W5.heap[wr.heap.size]? = some (.cells #[.float .f64 (toM a).om, .slice A1 p c1, .slice A2 q c2] 39) := by
        rw [hk5.blk _ (Nat.lt_of_lt_of_le (show wr.heap.size < W3.heap.size by rw [HSz3.out]; exact Nat.lt_succ_self _) HK4.out.sz) (fun cur f => by rw [HRow4.out]; intro e; injection e with e; injection e with _ e2; exact absurd e2 (by decide)), HRow4.out, HPq.out.1, HPq.out.2]
      have q0' : W5.cell? ⟨wr.heap.size, 0, none⟩ = some (.float .f64 (toM a).om) := by rw [cell_of_row _ _ 0 _ _ _ hrow5]; rfl
      have q1' : W5.cell? ⟨wr.heap.size, 1, none⟩ = some (.slice A1 p c1) := by rw [cell_of_row _ _ 1 _ _ _ hrow5]; rfl
      have q2' : W5.cell? ⟨wr.heap.size, 2, none⟩ = some (.slice A2 q c2) := by rw [cell_of_row _ _ 2 _ _ _ hrow5]; rfl
      obtain ⟨L5, hL5⟩ : ∃ L5, L5 = L4 ++ [p, q] := ⟨_, rfl⟩
      have HL5 := Lib.hid hL5
      have HO5 := Lib.hid (show OwnB W5 w.heap.size v3 L5 from by
        rw [hL5]
        unfold OwnB
        have er : bytesV L4 ++ [.int .u8 (p : Int), .int .u8 (q : Int)] = bytesV (L4 ++ [p, q]) := by simp [bytesV]
        rw [List.length_append, ← er]; exact hown5)
      have hr5 : Below w.heap.size W4 W5 := (hb5.mono HBz.out).grown hgrow5 (Nat.le_trans HBz.out hb5.size) (fun k hk => (HO4.out.lt k hk).1)
      have HB5 := Lib.hid (HB4.out.trans hr5)
      have HBr5 := Lib.hid (HBr4.out.trans hr5)
      have HNm := Lib.hid (numbers_c (toM a).om A1 A2 (toM a).vs (toM a).ys c1 c2 W5 ((HR1.out.below HBr5.out).more HB5.out.size) ((HR2.out.below HBr5.out).more HB5.out.size) H67.out.1 H67.out.2 (by have := HPq.out.1; omega) (by have := HPq.out.2; omega))
      rw [← HPq.out.1, ← HPq.out.2] at HNm
      clear hown5 hgrow5 hat5 hb5 hk5 hrow5 hr5 hL5 q0 q1 q2 hwp hwq
      go_wp2_with fail
      refine HNm.out.mono ?_
      rintro e W6 ⟨v4, rfl, hown6, hb6⟩
      obtain ⟨l, hl⟩ : ∃ l, l = a.v ++ a.a := ⟨_, rfl⟩
      have hnl : (toM a).vs ++ (toM a).ys = l.map numW := by rw [hl, List.map_append]; rfl
      rw [hnl] at hown6
      obtain ⟨m, hm⟩ : ∃ m, m = l.length := ⟨_, rfl⟩
      rw [List.length_map, ← hm] at hown6
      have HM := Lib.hid hm
      have HLl := Lib.hid hl
      have hm1 : m ≤ 128 := by
        have h1 := HAk.out.sv
        have h2 := HAk.out.sy
        rw [hm, hl, List.length_append]; omega
      have HLk := Lib.hid (fun u (hu : u ∈ l) => (show u < 18446744073709551616 ∧ pFinite (numW u) = true from by
        rw [hl] at hu
        rcases List.mem_append.1 hu with hu | hu
        · exact HAk.out.nv u hu
        · exact HAk.out.na u hu))
      obtain ⟨A4, c4, rfl, -, -, -⟩ := own_reads hown6
      have HOw6 := Lib.hid hown6
      have HB6 := Lib.hid (HB5.out.trans (hb6.mono HB5.out.size))
      have HO6 := Lib.hid (HO5.out.below hb6)
      have HSz5 := Lib.hid (show L5.length ≤ 5000010 from by rw [HL5.out, List.length_append]; have := HSz.out.1; simp; omega)
      clear hown6 hb6 hnl hl hm HNm q0' q1' q2'
      go_wp2
      go_loopw [5, 47] (fun bv jv wj => ∃ j : Nat, j ≤ m ∧ jv = .int .i64 (j : Nat) ∧ Hid (OwnB wj w.heap.size bv (L5 ++ encN (l.take j))) ∧ Hid (Below w.heap.size w wj) ∧ Hid (KeepT 5 W6 wj)) (fun _ jv _ => m - (intOf jv).toNat)
      case atStart => exact ⟨0, Nat.zero_le _, rfl, Lib.hid (by simpa [encN] using HO6.out), HB6, Lib.hid (KeepT.refl _ _)⟩
      case round =>
        obtain ⟨j, hj, rfl, HOj, HBj, HKj⟩ := hrel
        rename World => wj
        by_cases hjm : j < m
        · have hjm' : (j : Int) < m := by omega
          obtain ⟨u, hu⟩ := some_of_lt (l := l) (k := j) (by rw [← HM.out]; exact hjm)
          obtain ⟨A4', c4', e4, hr4, -, -⟩ := own_reads (own_keepT HOw6.out (by decide) HKj.out)
          injection e4 with e4 e5 e6
          clear e5
          subst e4
          subst e6
          obtain ⟨ad, hA4, hab, hcz⟩ := hr4.at_ (k := j) (u := .complex .f64 (numW u).1 (numW u).2) (by simp [nums, hu])
          subst hA4
          have HUk := Lib.hid (HLk.out u (List.mem_of_getElem? hu))
          have HTo := Lib.hid (fun V => To_n HUk.out.1 HUk.out.2 V)
          have HBi := Lib.hid (fun V => Bits_n HUk.out.1 HUk.out.2 V)
          have HLd := Lib.hid (laidB (B := w.heap.size) (L := L5 ++ encN (l.take j)) _ u 8 wj HOj.out (by
            have h1 := HSz5.out
            rw [List.length_append, encN_len, List.length_take]; omega) HBj.out.size (by decide))
          have HUj := Lib.hid hu
          clear hu hj hab hr4
          go_wp2_with fail
          refine (HTo.out _).mono ?_
          rintro e w' ⟨rfl, rfl⟩
          go_wp2_with fail
          refine (HBi.out _).mono ?_
          rintro e w' ⟨rfl, rfl⟩
          go_wp2_with fail
          refine HLd.out.mono ?_
          rintro e W7 ⟨v7, rfl, ho7, hb7, hk7⟩
          have HO7 := Lib.hid (show OwnB W7 w.heap.size v7 (L5 ++ encN (l.take (j + 1))) from by rw [encN_take HUj.out, ← List.append_assoc]; exact ho7)
          have HB7 := Lib.hid (HBj.out.trans hb7)
          have HK7 := Lib.hid (HKj.out.trans hk7)
          clear ho7 hb7 hk7 HLd hcz
          go_wp2
          go_roundw
          case rel => exact ⟨j + 1, hjm, by go_num, HO7, HB7, HK7⟩
          case measure => simp [intOf]; omega
        · have e : j = m := by omega
          subst e
          have HOe := Lib.hid (show OwnB wj w.heap.size _ (preE acc (i + 1)) from by
            have h := HOj.out
            rw [List.take_of_length_le (by rw [← HM.out]; exact Nat.le_refl _), encW_end HAi.out HL4.out HL5.out HLl.out (HPq.out.1.trans (List.length_map ..)) (HPq.out.2.trans (List.length_map ..)) hp6 hq6] at h
            exact h)
          clear hj HOj
          go_wp2
          go_roundw
          case rel => exact ⟨i + 1, hin, by go_num, HOe, HBj⟩
          case measure => simp [intOf]; omega
    · have e : i = n := by omega
      subst e
      have HOe := Lib.hid (show OwnB wr w.heap.size _ (encS acc) from by
        have h := HO.out
        rw [HN.out, preE_all] at h
        exact h)
      clear hi HO
      go_wp2
      go_ret2
      exact ⟨_, rfl, HOe.out, HB.out⟩
end Go.Proofs.Ytpfjidijecgjcaa
