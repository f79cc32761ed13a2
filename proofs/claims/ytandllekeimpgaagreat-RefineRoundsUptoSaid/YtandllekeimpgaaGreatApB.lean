/- Numbers' lists held apart, what lies elsewhere kept, of up to 1150000000 numbers (turned from ApK by conv_big.py). -/
import Derived.Test.YtandllekeimpgaaGreatApL
import Derived.Test.YtandllekeimpgaaGreatOvB
namespace Go.Proofs.YtandllekeimpgaaGreat.AB
open Go.RowKit Fl Ieee
set_option maxRecDepth 20000
attribute [local go_sem] run_store_float run_store_complex
/-- Below B, and wherever none of the lists lies, all is kept. -/
structure BK (B : Nat) (w : World) (Ss : List Value) (V : World) : Prop where
  bel : Below B w V
  kept : ∀ j, j < w.heap.size → (∀ S ∈ Ss, S.ownBlock ≠ some j) → V.heap[j]? = w.heap[j]?
namespace BK
variable {B : Nat} {w V V' : World} {Ss : List Value}
theorem refl (w : World) : BK B w Ss w := ⟨Below.refl _ _, fun _ _ _ => rfl⟩
theorem below (h : BK B w Ss V) (hb : Below V.heap.size V V') (hB : B ≤ V.heap.size) : BK B w Ss V' :=
  ⟨h.bel.trans (hb.mono hB), fun j hj hn => (hb.block j (Nat.lt_of_lt_of_le hj h.bel.size)).trans (h.kept j hj hn)⟩
theorem setCell {g i : Nat} {v : Value} (h : BK B w Ss V) (hg : B ≤ g) (hS : ∃ S, S ∈ Ss ∧ S.ownBlock = some g) : BK B w Ss (V.setCell ⟨g, i, none⟩ v) :=
  ⟨h.bel.setCell hg _, fun j hj hn => by
    obtain ⟨S, h1, h2⟩ := hS
    exact (Below.heap_setCell _ _ _ _ (fun e => hn S h1 (by rw [h2, e]))).trans (h.kept j hj hn)⟩
theorem grown {row : Option Nat} (h : BK B w Ss V) (hg : V.grownBy V' row) (hB : B ≤ V.heap.size) (hj : ∀ j, row = some j → B ≤ j) (hx : ∀ b, row = some b → (∃ S, S ∈ Ss ∧ S.ownBlock = some b) ∨ w.heap.size ≤ b) : BK B w Ss V' :=
  ⟨h.bel.grown hg hB hj, fun j hl hn => by
    refine (hg.block j (Nat.lt_of_lt_of_le hl h.bel.size) (fun e => ?_)).trans (h.kept j hl hn)
    rcases hx j e.symm with ⟨S, h1, h2⟩ | h1
    · exact hn S h1 h2
    · omega⟩
end BK
theorem mark_finB (k i : Nat) (hk : k ≤ 10000) (hi : i ≤ 2000000) : isNaN double (mark k i).1 = false ∧ isNaN double (mark k i).2 = false := by
  have h1 : Ex (floatOfInt .f64 (-1000 * (k : Int) - (i : Int))) (-1000 * (k : Int) - (i : Int)) 1074 := ex_nearest (by omega)
  have h2 : Ex (floatOfInt .f64 (k : Int)) (k : Int) 1074 := ex_nearest (by omega)
  have h3 : fin double (fneg 4620130267728707584) := by unfold fin; decide +kernel
  unfold mark
  refine ⟨?_, ?_⟩
  · show isNaN double (fsub (Fl.cn .f64 (floatOfInt .f64 (-1000 * (k : Int) - (i : Int)))) (Fl.cn .f64 4620130267728707584)) = false
    rw [h1.cn, show Fl.cn .f64 4620130267728707584 = 4620130267728707584 by decide, fsub_eq _ (by omega)]
    exact nan_add h1.2.1 h3
  · show isNaN double (Fl.cn .f64 (floatOfInt .f64 (k : Int))) = false
    rw [h2.cn]; exact h2.nan
theorem mark_xB (k i : Nat) (hk : k ≤ 10000) (hi : i ≤ 2000000) (w : World) :
    Calls Tryz.prog 27 #[.int .i64 (k : Nat), .int .i64 (i : Nat)] w fun e w' => e = .returned (.complex .f64 (mark k i).1 (mark k i).2) ∧ ∃ d, w' = w.drewN d := by
  refine (mark_big k i hk hi w).mono ?_
  rintro e w' ⟨x, y, n, rfl, hv, hx, hy, rfl⟩
  obtain ⟨f1, f2⟩ := mark_finB k i hk hi
  have e1 : x = (mark k i).1 := cn_only (congrArg Prod.fst hv) f1
  have e2 : y = (mark k i).2 := cn_only (congrArg Prod.snd hv) f2
  exact ⟨by rw [e1, e2], n, rfl⟩
theorem wrap_twoB (n i : Nat) (h : n ≤ 1500000) (h' : i ≤ 6) : wrap64 ((n : Int) + (i : Int)) = ((n + i : Nat) : Int) := by rw [← Int.natCast_add]; unfold wrap64; omega
def LoopA (w : World) (B q m : Nat) (Ss : List Value) (lens : List Nat) (k : Nat) (wr : World) : Prop :=
  ∃ zss : List (List C), k ≤ m ∧ Fam wr B q Ss zss ∧ zss.map List.length = lens ∧ MarkedTo k zss ∧ BK B w Ss wr
def LoopB (w : World) (B q : Nat) (Ss : List Value) (lens : List Nat) (k n i : Nat) (wr : World) : Prop :=
  ∃ (zss : List (List C)) (zs : List C), i ≤ n ∧ Fam wr B q Ss zss ∧ zss.map List.length = lens ∧ MarkedTo k zss ∧ zss[k]? = some zs ∧ zs.length = n ∧ part k i zs ∧ BK B w Ss wr
theorem LoopB.next {w wr V : World} {B q k n i g c : Nat} {Ss : List Value} {lens : List Nat} {z : C} (h : LoopB w B q Ss lens k n i wr) (ha : Apt q Ss) (hS : Ss[k]? = some (.slice (some ⟨g, 0, none⟩) n c)) (hi : i < n) (hg : B ≤ g) (hB : B ≤ wr.heap.size)
    (hV : Below wr.heap.size wr V) (hz : cnC z = mark (k + 10) i) : LoopB w B q Ss lens k n (i + 1) (V.setCell ⟨g, i, none⟩ (.complex .f64 z.1 z.2)) := by
  obtain ⟨zss, zs, h1, h2, h3, h4, h5, h6, h7, h8⟩ := h
  have hk : k < zss.length := lt_of_some h5
  refine ⟨zss.set k (zs.set i z), zs.set i z, hi, (h2.below hV).set (z := z) ha hS h5 h6.symm, ?_, ?_, ?_, ?_, part_set h7 hz, (h8.below hV hB).setCell hg ⟨_, List.mem_of_getElem? hS, rfl⟩⟩
  · rw [List.map_set, List.length_set, ← h3]
    apply List.ext_getElem?
    intro j
    by_cases e : k = j
    · subst e
      rw [List.getElem?_set_self (by simpa using hk), List.getElem?_map, h5]; rfl
    · rw [List.getElem?_set_ne e]
  · intro j ys hj hy
    rw [List.getElem?_set_ne (by omega)] at hy
    exact h4 j ys hj hy
  · rw [List.getElem?_set_self hk]
  · rw [List.length_set]; exact h6
set_option maxHeartbeats 4000000 in
theorem Apart_keep (B q m mc : Nat) (Ss : List Value) (lens : List Nat) (zs0 : List (List C)) (w : World) (hm : Ss.length = m) (hm100 : m ≤ 100) (ha : Apt q Ss) (hF : Fam w B q Ss zs0) (hl : zs0.map List.length = lens) (hB : B ≤ w.heap.size) (hln : ∀ n ∈ lens, n ≤ 1500000) :
    Calls Tryz.prog 16 #[.slice (some ⟨q, 0, none⟩) m mc] w fun e w' => e = .returned (.bool true) ∧ BK B w Ss w' := by
  have HF0 := Lib.hid hF
  have HL0 := Lib.hid hl
  have HA := Lib.hid ha
  have HM := Lib.hid hm
  have HM100 := Lib.hid hm100
  have HB := Lib.hid hB
  have HLN := Lib.hid hln
  clear hm hm100 ha hF hl hB hln
  obtain ⟨i0, hi0, hz0, hz1, hz2⟩ := info_parts infoNum
  obtain ⟨iS, his, hs0, hs1, hs2⟩ := info_parts infoSl
  go_enter Tryz.func16, Tryz.ntmps16
  go_wp2
  go_loopw [3] (fun kv wr => ∃ k : Nat, kv = .int .i64 (k : Nat) ∧ LoopA w B q m Ss lens k wr) (fun kv _ => m - (intOf kv).toNat)
  case atStart => exact ⟨0, rfl, zs0, Nat.zero_le _, HF0.out, HL0.out, fun j zs hj _ => absurd hj (Nat.not_lt_zero _), BK.refl _⟩
  case round =>
    obtain ⟨k, rfl, hrl⟩ := hrel
    have HR := Lib.hid hrl
    obtain ⟨-, hk, -⟩ := hrl
    have hkb : k < 4611686018427387904 := by have := HM100.out; omega
    by_cases hlt : k < m
    · have hlti : (k : Int) < (m : Int) := Int.ofNat_lt.2 hlt
      obtain ⟨zss, -, hf, hlen, hmk, hbw⟩ := HR.out
      obtain ⟨S, hS⟩ := some_of_lt (l := Ss) (k := k) (by rw [HM.out]; exact hlt)
      obtain ⟨zs, hzs⟩ := some_of_lt (l := zss) (k := k) (by rw [hf.len, HM.out]; exact hlt)
      obtain ⟨A, n, c, rfl, hn⟩ := slice_of_own (hf.own k S zs hS hzs)
      have hn5 : n ≤ 1500000 := by
        refine HLN.out n ?_
        rw [hn, ← hlen]
        exact List.mem_map_of_mem (List.mem_of_getElem? hzs)
      have HN5 := Lib.hid hn5
      have HSk := Lib.hid hS
      have hq := hf.list k _ hS
      have HB0 := Lib.hid (show LoopB w B q Ss lens k n 0 wr from ⟨zss, zs, Nat.zero_le _, hf, hlen, hmk, hzs, hn.symm, fun p z hp => absurd hp (Nat.not_lt_zero _), hbw⟩)
      clear hf hlen hmk hbw hzs hn hS hn5 zs zss
      go_wp2
      go_loopw [4] (fun iv wr => ∃ i : Nat, iv = .int .i64 (i : Nat) ∧ LoopB w B q Ss lens k n i wr) (fun iv _ => n - (intOf iv).toNat)
      case atStart => exact ⟨0, rfl, HB0.out⟩
      case round =>
        clear HB0 hq HR
        obtain ⟨i, rfl, hrl⟩ := hrel
        have HR := Lib.hid hrl
        obtain ⟨zss, zs, hi, hf, -, -, hzs, hzl, -, hbw⟩ := hrl
        have hq := hf.list k _ HSk.out
        have hkb2 : i < 4611686018427387904 := by have := HN5.out; omega
        rename World => wi
        by_cases hlt2 : i < n
        · have hlti2 : (i : Int) < (n : Int) := Int.ofNat_lt.2 hlt2
          obtain ⟨g, cap, hA, hBg, hgw⟩ := (hf.own k _ zs HSk.out hzs).form (by omega)
          have hAe : A = some ⟨g, 0, none⟩ := by injection hA
          subst hAe
          have hBw : B ≤ wi.heap.size := Nat.le_trans HB.out hbw.bel.size
          obtain ⟨K, hK⟩ : ∃ K, K = k + 10 := ⟨_, rfl⟩
          have hw : IntKind.i64.wrap ((k : Int) + 10) = (K : Int) := by rw [hK]; exact wrap_ten k (by have := HM100.out; omega)
          have hkeep : ∀ V, Below wi.heap.size wi V → V.cell? ⟨q, k, none⟩ = some (.slice (some ⟨g, 0, none⟩) n c) ∧ (∃ u, V.cell? ⟨g, i, none⟩ = some u) ∧ V.frozen? ⟨g, i, none⟩ = false := fun V hV => by
            have hf2 := hf.below hV
            have ho := hf2.own k _ zs HSk.out hzs
            rw [hzl] at ho
            refine ⟨hf2.list k _ HSk.out, ?_, ho.frozenAt i⟩
            obtain ⟨u, hu⟩ := some_of_lt (l := nums zs) (k := i) (by simp [nums]; omega)
            exact ⟨u, (ho.cellAt i (by omega)).trans hu⟩
          have hqg : q ≠ g := fun e => HA.out.notq k _ HSk.out (by rw [e]; rfl)
          have hkeep2 : ∀ V v, Below wi.heap.size wi V → (V.setCell ⟨g, i, none⟩ v).cell? ⟨q, k, none⟩ = some (.slice (some ⟨g, 0, none⟩) n c) ∧ (∃ u, (V.setCell ⟨g, i, none⟩ v).cell? ⟨g, i, none⟩ = some u) ∧ (V.setCell ⟨g, i, none⟩ v).frozen? ⟨g, i, none⟩ = false := fun V v hV => by
            obtain ⟨y1, ⟨u, y2⟩, y3⟩ := hkeep V hV
            exact ⟨(World.cell?_setCell_other _ _ _ _ (fun e => hqg (by injection e with e1; exact e1.symm))).trans y1, ⟨_, World.cell?_setCell_same _ _ _ y2⟩, by rw [World.frozen?_setCell]; exact y3⟩
          have HK := Lib.hid hkeep
          have HK2 := Lib.hid hkeep2
          have hMk : ∀ V, Calls Tryz.prog 27 #[.int .i64 (IntKind.i64.wrap ((k : Int) + 10)), .int .i64 (i : Nat)] V (RetC (mark K i) V) := fun V => by rw [hw]; exact mark_big K i (by have := HM100.out; omega) (by have := HN5.out; omega) V
          have HMk := Lib.hid hMk
          have HKe := Lib.hid hK
          have HBg := Lib.hid hBg
          have HBw := Lib.hid hBw
          obtain ⟨x1, ⟨u, x2⟩, x3⟩ := hkeep wi (Below.refl _ _)
          clear hf hzs hzl hbw hA hgw hkeep hkeep2 hqg hK hq hBg hBw hMk hw
          go_wp2_with fail
          go_region_held3 (fun V => V.cell? ⟨q, k, none⟩ = some (.slice (some ⟨g, 0, none⟩) n c) ∧ (∃ u, V.cell? ⟨g, i, none⟩ = some u) ∧ V.frozen? ⟨g, i, none⟩ = false)
            (first
            | (with_reducible refine HK2.out _ _ ?_; (repeat (first | with_reducible assumption | with_reducible refine Below.drew ?_ | with_reducible exact Below.refl _ _)); done)
            | (with_reducible refine HK.out _ ?_; (repeat (first | with_reducible assumption | with_reducible refine Below.new ?_ (Nat.le_refl _) _ | with_reducible refine Below.drew ?_ | with_reducible exact Below.refl _ _)); done))
            (first
            | (go_at_call 27; (with_reducible refine (from_c (B := wi.heap.size) (w := wi) (HMk.out _) ?_).mono ?_); (repeat (first | with_reducible assumption | with_reducible refine Below.drew ?_ | with_reducible exact Below.refl _ _)); (rintro e V ⟨x, rfl, hx, lx, hV⟩); (obtain ⟨y1, ⟨u', y2⟩, y3⟩ := HK.out V hV)))
          all_goals
            have HVV := Lib.hid hV
            have HXX := Lib.hid hx
            clear hV hx lx x1 x2 x3 y1 y2 y3 HK HK2
            go_wp2
            go_roundw
            case rel => exact ⟨i + 1, by go_num, HR.out.next HA.out HSk.out hlt2 HBg.out HBw.out HVV.out (by rw [HXX.out, HKe.out])⟩
            case measure => simp [intOf]; omega
        · have e : i = n := by omega
          subst e
          have hlti2 : ((i : Int) < (i : Int)) = False := by simp
          clear hf hzs hzl hbw
          go_wp2
          go_roundw
          case rel =>
            refine ⟨k + 1, by go_num, ?_⟩
            obtain ⟨zss, zs, -, hf, hlen, hmk, hzs, hzl, hpt, hbw⟩ := HR.out
            refine ⟨zss, hlt, hf, hlen, fun j ys hj hy => ?_, hbw⟩
            rcases Nat.lt_or_ge j k with h | h
            · exact hmk j ys h hy
            · have e : j = k := by omega
              subst e
              rw [hzs] at hy
              injection hy with hy
              subst hy
              intro p z hz
              exact hpt p z (by have := lt_of_some hz; omega) hz
          case measure => simp [intOf]; omega
    · have e : k = m := by omega
      subst e
      have hlti : ((k : Int) < (k : Int)) = False := by simp
      obtain ⟨zss, -, hf, hlen, hmk, hbw⟩ := HR.out
      have HF1 := Lib.hid hf
      have HLen := Lib.hid hlen
      have HMk := Lib.hid (fun (j : Nat) (zs : List C) (hz : zss[j]? = some zs) => hmk j zs (by have := lt_of_some hz; rw [hf.len, HM.out] at this; exact this) hz)
      have HBw := Lib.hid hbw
      rename World => w1
      have HSb := Lib.hid (fun (j : Nat) (S : Value) (b : Nat) (hS : Ss[j]? = some S) (hb : S.ownBlock = some b) => by
        obtain ⟨zs, hz⟩ := some_len hS hf.len
        exact ((hf.own j S zs hS hz).lt b hb).2 : ∀ (j : Nat) (S : Value) (b : Nat), Ss[j]? = some S → S.ownBlock = some b → b < w1.heap.size)
      clear hf hlen hmk hbw HR HF0 HL0 hk hlt
      go_wp2
      go_loopw [5, 6] (fun gv kv wr => ∃ (j : Nat) (Gs : List Value) (yss : List (List C)), j ≤ k ∧ kv = .int .i64 (j : Nat) ∧ Out w1 wr B q j Ss zss Gs yss gv ∧ BK B w Ss wr ∧ (∀ b, gv.ownBlock = some b → w.heap.size ≤ b)) (fun _ kv _ => k - (intOf kv).toNat)
      case atStart => exact ⟨0, [], [], Nat.zero_le _, rfl, Out.start HF1.out, HBw.out, fun b hb => by cases hb⟩
      case round =>
        obtain ⟨j, Gs, yss, hj, rfl, hout, hbw, hgv⟩ := hrel
        have HGv := Lib.hid hgv
        have HO := Lib.hid hout
        have HBw2 := Lib.hid hbw
        rename World => w0
        have hjb : j < 4611686018427387904 := by have := HM100.out; omega
        clear hout hbw hkb hgv
        by_cases hlt : j < k
        · have hltj : (j : Int) < (k : Int) := Int.ofNat_lt.2 hlt
          obtain ⟨S, hS⟩ := some_of_lt (l := Ss) (k := j) (by rw [HM.out]; exact hlt)
          obtain ⟨zs, hzs⟩ := some_len hS HO.out.lenz
          obtain ⟨A, n, c, rfl, hn⟩ := slice_of_own (HO.out.own j S zs (Nat.le_refl _) hS hzs)
          have hn5 : n ≤ 1500000 := by
            refine HLN.out n ?_
            rw [hn, ← HLen.out]
            exact List.mem_map_of_mem (List.mem_of_getElem? hzs)
          have hinn := HO.out.inn hS hzs (HMk.out j zs hzs)
          rw [← hn] at hinn
          have HInn := Lib.hid hinn
          have HN5 := Lib.hid hn5
          have HSj := Lib.hid hS
          have HZj := Lib.hid hzs
          have HNz := Lib.hid hn
          have hq := HO.out.list j _ hS
          have hqlt : q < w1.heap.size := block_lt_of_cell (HF1.out.list j _ hS)
          have HQ := Lib.hid hqlt
          have HRest := Lib.hid HO.out.rest
          clear hinn hn5 hS hzs hn hqlt
          go_wp2
          go_loopw [7, 8] (fun G iv wr => ∃ (i : Nat) (ys : List C), i ≤ 6 ∧ iv = .int .i64 (i : Nat) ∧ Inn w0 wr B q j n i Ss zss Gs yss u5 (.slice A n c) G zs ys ∧ BK B w Ss wr) (fun _ iv _ => 6 - (intOf iv).toNat)
          case atStart => exact ⟨0, zs, Nat.zero_le _, rfl, HInn.out, HBw2.out⟩
          case round =>
            clear HInn hq
            obtain ⟨i, ys, hi, rfl, hinn, hbw⟩ := hrel
            have HIn := Lib.hid hinn
            have HBw3 := Lib.hid hbw
            rename World => wi
            have hq := hinn.rest.list j _ HSj.out
            have hib : i < 4611686018427387904 := by omega
            clear hinn hbw
            by_cases hlt2 : i < 6
            · have hlt6 : (i : Int) < 6 := by omega
              obtain ⟨K, hK⟩ : ∃ K, K = j + 10 := ⟨_, rfl⟩
              obtain ⟨M, hM⟩ : ∃ M, M = n + i := ⟨_, rfl⟩
              have hMk : ∀ V, Calls Tryz.prog 27 #[.int .i64 ((j : Int) + 10), .int .i64 (M : Nat)] V (RetC (mark K M) V) := fun V => by
                have e : (j : Int) + 10 = (K : Int) := by omega
                rw [e]; exact mark_big K M (by have := HM100.out; omega) (by have := HN5.out; omega) V
              have hw2 : wrap64 ((n : Int) + (i : Int)) = (M : Int) := by rw [hM]; exact wrap_twoB n i HN5.out hi
              have HMk2 := Lib.hid hMk
              have HKM := Lib.hid (And.intro hK hM)
              clear hMk hK hM
              go_wp2_with fail
              refine (from_c (B := wi.heap.size) (w := wi) (HMk2.out _) (Below.refl _ _)).mono ?_
              rintro e V ⟨z, rfl, hz, lz, hV⟩
              have HZ := Lib.hid hz
              have HV := Lib.hid hV
              have HI2 := Lib.hid ((HIn.out.below hV).below (below_new V (.cells #[.complex .f64 z.1 z.2] 60)))
              have hBs : B ≤ (V.alloc (.cells #[.complex .f64 z.1 z.2] 60)).heap.size := Nat.le_trans HB.out (Nat.le_trans HBw3.out.bel.size (Nat.le_trans hV.size (below_new V _).size))
              have HBs := Lib.hid hBs
              have hmx : n + i + 1 ≤ 1500100 := by have := HN5.out; omega
              have HMx := Lib.hid hmx
              clear hz lz hV hBs hmx hw2
              go_wp2_with (at_builtin; refine wpList_append_stays _ rfl (.tmp 50) (.tmp 61) 25 rfl B 60 i0 (.complex .f64 0 0) 16 Tryz.underlying25 hi0 hz0 hz1 hz2 rfl _ _ _ rfl HI2.out.own ⟨V.heap.size, 0, none⟩ 1 1 [.complex .f64 z.1 z.2] rfl rfl (cell_one_new _ _ _) (by intro u hu; simp at hu; subst hu; rfl) (by have := HMx.out; unfold maxLen; omega) (by have := HMx.out; omega) HBs.out ?_; intro v' w2 hown1 hgrow1 hat1)
              have hyl : ys.length = M := by have := HIn.out.own.1; rw [HKM.out.2]; simpa [nums] using this
              have hnx := HI2.out.next HA.out HO.out.dis HSj.out HRest.out (fun j S b h1 h2 => Nat.lt_of_lt_of_le (HSb.out j S b h1 h2) HO.out.size) (Nat.lt_of_lt_of_le HQ.out HO.out.size) hown1 hgrow1 hat1 (by rw [hyl, HZ.out, HKM.out.1])
              have HNx := Lib.hid hnx
              have HBx := Lib.hid (((HBw3.out.below HV.out (Nat.le_trans HB.out HBw3.out.bel.size)).below (below_new _ _) (Nat.le_trans HB.out (Nat.le_trans HBw3.out.bel.size HV.out.size))).grown hgrow1 HBs.out (fun j hj => (HI2.out.own.lt j hj).1) (fun b hb => by
                  rcases HIn.out.blk with e | ⟨b', e, hb'⟩
                  · exact .inl ⟨_, List.mem_of_getElem? HSj.out, e.symm.trans hb⟩
                  · have h2 := e.symm.trans hb; injection h2 with h2; subst h2; exact .inr (Nat.le_trans HBw2.out.bel.size hb')))
              clear hnx hown1 hgrow1 hat1 hyl
              go_wp2
              go_roundw
              case rel => exact ⟨i + 1, _, hlt2, by go_num, HNx.out, HBx.out⟩
              case measure => simp [intOf]; omega
            · have e : i = 6 := by omega
              subst e
              obtain ⟨g, cp, rfl, -, -⟩ := HIn.out.own.form (by omega)
              have HI2 := Lib.hid (HIn.out.below (below_new wi (.cells #[.slice (some ⟨g, 0, none⟩) (n + 6) cp] 25)))
              have hBs : B ≤ (wi.alloc (.cells #[.slice (some ⟨g, 0, none⟩) (n + 6) cp] 25)).heap.size := Nat.le_trans HB.out (Nat.le_trans HBw3.out.bel.size (below_new wi _).size)
              have HBs := Lib.hid hBs
              have hGl : Gs.length ≤ 100 := by rw [HO.out.lenG]; have := HM100.out; omega
              have HGl := Lib.hid hGl
              clear hBs hGl
              go_wp2_with (at_builtin; refine wpList_append_stays _ rfl (.tmp 63) (.tmp 65) 47 rfl B 25 iS (.slice none 0 0) 24 Tryz.underlying47 his hs0 hs1 hs2 rfl _ _ _ rfl HI2.out.rest.ownL ⟨wi.heap.size, 0, none⟩ 1 1 [.slice (some ⟨g, 0, none⟩) (n + 6) cp] rfl rfl (cell_one_new _ _ _) (by intro u hu; simp at hu; subst hu; rfl) (by have := HGl.out; unfold maxLen; omega) (by have := HGl.out; omega) HBs.out ?_; intro v' w2 hown1 hgrow1 hat1)
              have hnx := HO.out.next HSj.out HZj.out HNz.out HA.out HSb.out HQ.out HI2.out hown1 hgrow1 hat1
              have HNx := Lib.hid hnx
              have HBx := Lib.hid ((HBw3.out.below (below_new wi _) (Nat.le_trans HB.out HBw3.out.bel.size)).grown hgrow1 HBs.out (fun j hj => (HI2.out.rest.ownL.lt j hj).1) (fun b hb => .inr (HGv.out b hb)))
              have HGx := Lib.hid (fun (b : Nat) (hb : v'.ownBlock = some b) => (show w.heap.size ≤ b from by
                rcases hat1 with e | ⟨e, -⟩
                · exact HGv.out b (e.symm.trans hb)
                · rw [e] at hb; injection hb with hb; have h1 := HBw3.out.bel.size; have h2 := (below_new wi (.cells #[.slice (some ⟨g, 0, none⟩) (n + 6) cp] 25)).size; omega))
              clear hnx hown1 hgrow1 hat1
              go_wp2
              go_roundw
              case rel => exact ⟨j + 1, _, _, hlt, by go_num, HNx.out, HBx.out, HGx.out⟩
              case measure => simp [intOf]; omega
        · have e : j = k := by omega
          subst e
          have hltj : ((j : Int) < (j : Int)) = False := by simp
          go_wp2
          go_loopw [9] (fun rv wr => ∃ r : Nat, r ≤ j ∧ rv = .int .i64 (r : Nat) ∧ Below w0.heap.size w0 wr) (fun rv _ => j - (intOf rv).toNat)
          case atStart => exact ⟨0, Nat.zero_le _, rfl, Below.refl _ _⟩
          case round =>
            obtain ⟨r, hr, rfl, hbr⟩ := hrel
            rename World => wr
            have hrb : r < 4611686018427387904 := by have := HM100.out; omega
            by_cases hlt3 : r < j
            · have hltr : (r : Int) < (j : Int) := Int.ofNat_lt.2 hlt3
              obtain ⟨S, hS⟩ := some_of_lt (l := Ss) (k := r) (by rw [HM.out]; exact hlt3)
              obtain ⟨zs, hzs⟩ := some_len hS HO.out.lenz
              obtain ⟨G, hG⟩ := some_of_lt (l := Gs) (k := r) (by rw [HO.out.lenG]; exact hlt3)
              obtain ⟨ys, hys⟩ := some_len hG HO.out.leny
              obtain ⟨A, c, rfl, hA0, hrd⟩ := HO.out.reads r S zs hS hzs
              have hyl := HO.out.lens r ys zs hys hzs
              have hownG := HO.out.ownG r G ys hG hys
              obtain ⟨g, cp, rfl, -, -⟩ := hownG.form (by omega)
              obtain ⟨n, hn⟩ : ∃ n, n = zs.length := ⟨_, rfl⟩
              rw [← hn] at hS
              have hn5 : n ≤ 1500000 := by
                refine HLN.out n ?_
                rw [hn, ← HLen.out]
                exact List.mem_map_of_mem (List.mem_of_getElem? hzs)
              obtain ⟨gl, cl, hgv, -, -⟩ := HO.out.ownL.form (by rw [HO.out.lenG]; omega)
              subst hgv
              have hlG : (r : Int) < (Gs.length : Int) := by rw [HO.out.lenG]; exact hltr
              obtain ⟨N, hN⟩ : ∃ N, N = ys.length := ⟨_, rfl⟩
              rw [← hN] at hG hownG
              have hN6 : N = n + 6 := by rw [hN, hyl, hn]
              have hcS := HO.out.list r _ hS
              have hcL : w0.cell? ⟨gl, r, none⟩ = some (.slice (some ⟨g, 0, none⟩) N cp) := (HO.out.ownL.cellAt r (by have := lt_of_some hG; omega)).trans hG
              have hkeep : ∀ V, Below w0.heap.size w0 V → V.cell? ⟨q, r, none⟩ = some (.slice A n c) ∧ V.cell? ⟨gl, r, none⟩ = some (.slice (some ⟨g, 0, none⟩) N cp) := fun V hV =>
                ⟨(hV.cell (p := ⟨q, r, none⟩) (block_lt_of_cell hcS)).trans hcS, (hV.cell (p := ⟨gl, r, none⟩) (block_lt_of_cell hcL)).trans hcL⟩
              have HKp := Lib.hid hkeep
              obtain ⟨c1, c2⟩ := hkeep wr hbr
              have HBr := Lib.hid hbr
              have HZs := Lib.hid hzs
              have HYs := Lib.hid hys
              have HOG := Lib.hid hownG
              have HRd := Lib.hid hrd
              have HA0 := Lib.hid hA0
              have HN := Lib.hid hN
              have HNz := Lib.hid hn
              have HN5 := Lib.hid hn5
              have HN6 := Lib.hid hN6
              clear hS hzs hys hG hyl hownG hn hn5 hN hN6 hcS hcL hkeep hbr hrd hA0
              go_wp2
              go_loopw [10] (fun pv wr => ∃ p : Nat, p ≤ N ∧ pv = .int .i64 (p : Nat) ∧ Below w0.heap.size w0 wr) (fun pv _ => N - (intOf pv).toNat)
              case atStart => exact ⟨0, Nat.zero_le _, rfl, HBr.out⟩
              case round =>
                obtain ⟨p, hp, rfl, hbp⟩ := hrel
                clear c1 c2
                rename World => wp
                have hpb : p < 4611686018427387904 := by have := HN5.out; have := HN6.out; omega
                obtain ⟨c1, c2⟩ := HKp.out wp hbp
                have HBp := Lib.hid hbp
                clear hbp
                by_cases hlt4 : p < N
                · have hltp : (p : Int) < (N : Int) := Int.ofNat_lt.2 hlt4
                  obtain ⟨y, hy⟩ := some_of_lt (l := ys) (k := p) (by rw [← HN.out]; exact hlt4)
                  have hmy := HO.out.mkd r ys HYs.out p y hy
                  have hcy : w0.cell? ⟨g, p, none⟩ = some (.complex .f64 y.1 y.2) := (HOG.out.cellAt p (by omega)).trans (by simp [nums, hy])
                  obtain ⟨K, hK⟩ : ∃ K, K = r + 10 := ⟨_, rfl⟩
                  have hMk : ∀ V, Calls Tryz.prog 27 #[.int .i64 (IntKind.i64.wrap ((r : Int) + 10)), .int .i64 (p : Nat)] V (RetC (mark K p) V) := fun V => by
                    rw [wrap_ten r (by have := HM100.out; omega), ← hK]; exact mark_big K p (by have := HM100.out; omega) (by have := HN5.out; have := HN6.out; omega) V
                  have HMk2 := Lib.hid hMk
                  rw [← hK] at hmy
                  have HMy := Lib.hid hmy
                  by_cases hlt5 : p < n
                  · have hltn : (p : Int) < (n : Int) := Int.ofNat_lt.2 hlt5
                    obtain ⟨z, hz⟩ := some_of_lt (l := zs) (k := p) (by rw [← HNz.out]; exact hlt5)
                    have hmz := HMk.out r zs HZs.out p z hz
                    rw [← hK] at hmz
                    have hpos : 0 < (nums zs).length := by have := lt_of_some hz; simp [nums]; omega
                    obtain ⟨ad, rfl, hadl, hadc⟩ := HRd.out hpos
                    have e5 := HA0.out ad rfl
                    obtain ⟨b, hb⟩ : ∃ b, b = ad.block := ⟨_, rfl⟩
                    rw [← hb] at e5
                    subst e5
                    have hcz : w0.cell? ⟨b, p, none⟩ = some (.complex .f64 z.1 z.2) := by
                      have h := hadc p (.complex .f64 z.1 z.2) (by simp [nums, hz])
                      rwa [addr0] at h
                    have hkeep : ∀ V, Below w0.heap.size w0 V → (V.cell? ⟨q, r, none⟩ = some (.slice (some ⟨b, 0, none⟩) n c) ∧ V.cell? ⟨gl, r, none⟩ = some (.slice (some ⟨g, 0, none⟩) N cp)) ∧ V.cell? ⟨g, p, none⟩ = some (.complex .f64 y.1 y.2) ∧ V.cell? ⟨b, p, none⟩ = some (.complex .f64 z.1 z.2) := fun V hV =>
                      ⟨HKp.out V hV, (hV.cell (p := ⟨g, p, none⟩) (block_lt_of_cell hcy)).trans hcy, (hV.cell (p := ⟨b, p, none⟩) (block_lt_of_cell hcz)).trans hcz⟩
                    have HK := Lib.hid hkeep
                    obtain ⟨-, x3, x4⟩ := hkeep wp HBp.out
                    have HBd := HBp.out
                    have HSm := Lib.hid (fun V => kSameNumber_t z y (hmz.trans HMy.out.symm) V)
                    clear hmy hmz hy hz hcy hcz hkeep hadl hadc hpos hK hb hMk
                    go_wp2_with fail
                    go_region_held3 (fun V => (V.cell? ⟨q, r, none⟩ = some (.slice (some ⟨b, 0, none⟩) n c) ∧ V.cell? ⟨gl, r, none⟩ = some (.slice (some ⟨g, 0, none⟩) N cp)) ∧ V.cell? ⟨g, p, none⟩ = some (.complex .f64 y.1 y.2) ∧ V.cell? ⟨b, p, none⟩ = some (.complex .f64 z.1 z.2))
                      (with_reducible refine HK.out _ ?_; (repeat (first | with_reducible assumption | with_reducible refine Below.drew ?_ | with_reducible exact Below.refl _ _)))
                      (first
                      | (go_at_call 27; (with_reducible refine (from_c (B := w0.heap.size) (w := w0) (HMk2.out _) ?_).mono ?_); (repeat (first | with_reducible assumption | with_reducible refine Below.drew ?_ | with_reducible exact Below.refl _ _)); (rintro e V ⟨x, rfl, hx, lx, hV⟩); (have hxy := kSameNumber_t y x (HMy.out.trans hx.symm)))
                      | (go_at_call 39; (with_reducible refine (HSm.out _).mono ?_); (rintro e V ⟨rfl, rfl⟩))
                      | (go_at_call 39; (with_reducible refine (hxy _).mono ?_); (rintro e V ⟨rfl, rfl⟩)))
                    all_goals
                      have HVV := Lib.hid hV
                      clear hV hx lx hxy
                      go_wp2
                      go_roundw
                      case rel => exact ⟨p + 1, hlt4, by go_num, HVV.out⟩
                      case measure => simp [intOf]; omega
                  · have hltn : decide (p < n) = false := decide_eq_false hlt5
                    obtain ⟨x3, c3⟩ : wp.cell? ⟨g, p, none⟩ = some (.complex .f64 y.1 y.2) ∧ True := ⟨(HBp.out.cell (p := ⟨g, p, none⟩) (block_lt_of_cell hcy)).trans hcy, trivial⟩
                    have hMq : ∀ V, Calls Tryz.prog 27 #[.int .i64 (IntKind.i64.wrap ((r : Int) + 10)), .int .i64 (p : Nat)] V fun e w' => e = .returned (.complex .f64 (mark K p).1 (mark K p).2) ∧ ∃ d, w' = V.drewN d := fun V => by
                      rw [wrap_ten r (by have := HM100.out; omega), ← hK]; exact mark_xB K p (by have := HM100.out; omega) (by have := HN5.out; have := HN6.out; omega) V
                    have hfin := mark_finB K p (by have := HM100.out; omega) (by have := HN5.out; have := HN6.out; omega)
                    have hmm : cnC y = cnC (mark K p) := by
                      rw [hmy]; exact (Prod.ext (cn_of_not (k := .f64) hfin.1) (cn_of_not (k := .f64) hfin.2)).symm
                    have hMq2 : ∀ V, Calls Tryz.prog 27 #[.int .i64 ((r : Int) + 10), .int .i64 (p : Nat)] V fun e w' => e = .returned (.complex .f64 (mark K p).1 (mark K p).2) ∧ ∃ d, w' = V.drewN d := fun V => by
                      have e : (r : Int) + 10 = (K : Int) := by omega
                      rw [e]; exact mark_xB K p (by have := HM100.out; omega) (by have := HN5.out; have := HN6.out; omega) V
                    have HMq := Lib.hid hMq
                    have HMq2 := Lib.hid hMq2
                    have HSn := Lib.hid (fun V => kSameNumber_t y (mark K p) hmm V)
                    have hKp : 0 ≤ (p : Int) := by omega
                    clear hmy hy hcy hK hMk c3 hfin hmm hMq hMq2 hlt5
                    go_wp2_with fail
                    go_quiet (first
                      | (go_at_call 27; first | with_reducible exact quiet_drew (HMq.out _) | with_reducible exact quiet_drew (HMq2.out _))
                      | (go_at_call 39; with_reducible exact quiet_same (HSn.out _)))
                    go_wp2
                    go_roundw
                    case rel => exact ⟨p + 1, hlt4, by go_num, below_drewN HBp.out _⟩
                    case measure => simp [intOf]; omega
                · have e : p = N := by omega
                  subst e
                  have hltp : ((p : Int) < (p : Int)) = False := by simp
                  go_wp2
                  go_roundw
                  case rel => exact ⟨r + 1, hlt3, by go_num, HBp.out⟩
                  case measure => simp [intOf]; omega
            · have e : r = j := by omega
              subst e
              have hltr : ((r : Int) < (r : Int)) = False := by simp
              go_wp2
              go_ret
              exact ⟨rfl, HBw2.out.below hbr (Nat.le_trans HB.out HBw2.out.bel.size)⟩

end Go.Proofs.YtandllekeimpgaaGreat.AB
