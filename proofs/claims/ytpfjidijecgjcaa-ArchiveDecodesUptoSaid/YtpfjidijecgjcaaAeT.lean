/- Layer 31: the document's Encode. -/
import Derived.Test.YtpfjidijecgjcaaAeS
import Derived.Test.YtpfjidijecgjcaaAdI
import Derived.Deep.DeepCutAuto
import Derived.Deep.RegionHeld3
import Derived.Deep.RegionLaw
namespace Fl
theorem beB_split : ∀ (a b x : Nat), beB (a + b) x = beB a (x / 256 ^ b) ++ beB b x
  | a, 0, x => by simp [beB]
  | a, b + 1, x => by
    show beB (a + b) (x / 256) ++ [x % 256] = beB a (x / 256 ^ (b + 1)) ++ (beB b (x / 256) ++ [x % 256])
    rw [beB_split a b (x / 256), Nat.div_div_eq_div_mul, Nat.pow_succ, Nat.mul_comm (256 ^ b) 256, List.append_assoc]
theorem beB_mod : ∀ (n x : Nat), beB n (x % 256 ^ n) = beB n x
  | 0, x => rfl
  | n + 1, x => by
    show beB n (x % 256 ^ (n + 1) / 256) ++ [x % 256 ^ (n + 1) % 256] = beB n (x / 256) ++ [x % 256]
    rw [Nat.pow_succ, Nat.mul_comm (256 ^ n) 256, Nat.mod_mul_right_div_self, Nat.mod_mul_right_mod, beB_mod n (x / 256)]
theorem be_eight (u : Nat) : beB 8 u = beB 4 (u / 4294967296) ++ beB 4 (u % 4294967296) := by
  have h := beB_split 4 4 u
  have e : (256 : Nat) ^ 4 = 4294967296 := by decide
  rw [e] at h
  have h2 := beB_mod 4 u
  rw [e] at h2
  rw [h2]; exact h
end Fl
namespace Go.Proofs.Ytpfjidijecgjcaa
open Go.RowKit Fl Ieee
set_option maxRecDepth 20000
attribute [local go_sem] run_store_float run_store_complex x_f64bits x_f32bits
theorem rlaid_c {B m : Nat} {L : List Nat} (v : Value) (x n : Nat) (w : World) (hown : w.ownsRow B 5 1 v m (bytesV L)) (hm : m ≤ 1000000000) (hB : B ≤ w.heap.size) (hn : n ≤ 8) :
    Calls Try.prog 52 #[v, .int .u64 (x : Nat), .int .i64 (n : Nat)] w fun e w' => ∃ v', e = .returned v' ∧ w'.ownsRow B 5 1 v' (m + n) (bytesV (L ++ beB n x)) ∧ Below B w w' ∧ KeepT 5 w w' := by
  obtain ⟨i0, hi0, hz0, hz1, hz2⟩ := info_parts infoByte
  have HO0 := Lib.hid hown
  obtain ⟨A0, c0, rfl, -, -, -⟩ := own_reads hown
  have hw1 : wrap64 ((n : Int) - 1) = (n : Int) - 1 := by unfold wrap64; omega
  clear hown
  go_enter Try.func52, Try.ntmps52
  go_wp2
  clear hw1
  go_loopw [0, 7] (fun bv iv wr => ∃ j : Nat, j ≤ n ∧ iv = .int .i64 ((n : Int) - 1 - (j : Nat)) ∧ Hid (wr.ownsRow B 5 1 bv (m + j) (bytesV (L ++ (beB n x).take j))) ∧ Hid (Below B w wr) ∧ Hid (KeepT 5 w wr)) (fun _ iv _ => (intOf iv + 1).toNat)
  case atStart => exact ⟨0, Nat.zero_le _, by simp, Lib.hid (by simpa using HO0.out), Lib.hid (Below.refl _ _), Lib.hid (KeepT.refl _ _)⟩
  case round =>
    obtain ⟨j, hj, rfl, HO, HBl, HKt⟩ := hrel
    rename World => wr
    by_cases hjn : j < n
    · obtain ⟨t, ht⟩ : ∃ t : Nat, t = n - 1 - j := ⟨_, rfl⟩
      have et : (n : Int) - 1 - (j : Nat) = (t : Nat) := by omega
      have HT := Lib.hid ht
      rw [et]
      have ht8 : t < 8 := by omega
      have h8t : wrap64 (8 * (t : Int)) = ((8 * t : Nat) : Int) := by unfold wrap64; omega
      have HSz := Lib.hid (show m + j + 1 ≤ maxLen ∧ (m + j + 1) * 1 ≤ 140737488355328 from by unfold maxLen; omega)
      clear et ht hj
      have hBs := HBl.out.size
      have HBw := Lib.hid (show B ≤ wr.heap.size by omega)
      clear hBs
      go_wp2_with (at_builtin; refine wpList_append_stays _ rfl (.tmp 14) (.tmp 20) 22 rfl B 5 i0 (.int .u8 0) 1 Try.underlying22 hi0 hz0 hz1 hz2 rfl _ _ _ rfl (HO.out.alloc _) ⟨wr.heap.size, 0, none⟩ 1 1 [.int .u8 ((x : Int) / 2 ^ (8 * t) % 256)] rfl rfl (cell_one_new _ _ _) (by intro u hu; simp at hu; subst hu; rfl) HSz.out.1 HSz.out.2 (Nat.le_trans HBw.out (below_new _ _).size) ?_; intro v' w2 hown1 hgrow1 hat1)
      have HB3 := Lib.hid ((HBl.out.trans ((below_new wr (.cells #[.int .u8 ((x : Int) / 2 ^ (8 * t) % 256)] 5)).mono HBw.out)).grown hgrow1 (Nat.le_trans HBw.out (below_new _ _).size) (fun k hk => (HO.out.lt k hk).1))
      have HK3 := Lib.hid ((HKt.out.trans (KeepT.below (below_new wr (.cells #[.int .u8 ((x : Int) / 2 ^ (8 * t) % 256)] 5)))).trans (KeepT.grown (HO.out.alloc _) hgrow1))
      have HO3 := Lib.hid (show w2.ownsRow B 5 1 v' (m + (j + 1)) (bytesV (L ++ (beB n x).take (j + 1))) from by
        have er : bytesV (L ++ (beB n x).take j) ++ [.int .u8 ((x : Int) / 2 ^ (8 * t) % 256)] = bytesV (L ++ (beB n x).take (j + 1)) := by
          rw [beB_take hjn, ← HT.out]
          have e : (256 : Nat) ^ t = 2 ^ (8 * t) := by rw [Nat.pow_mul]
          rw [e]
          simp [bytesV]
        rw [← er]; exact hown1)
      clear hown1 hgrow1 hat1
      go_roundw
      case rel => exact ⟨j + 1, hjn, by have := HT.out; go_num, HO3, HB3, HK3⟩
      case measure => simp [intOf]
    · have e : j = n := by omega
      subst e
      have hneg : ¬ ((j : Int) - 1 - (j : Nat) ≥ 0) := by omega
      go_wp2
      go_ret
      refine ⟨_, rfl, ?_, HBl.out, HKt.out⟩
      have h := HO.out
      rw [List.take_of_length_le (by rw [beB_len]; exact Nat.le_refl _)] at h
      exact h
theorem rlaidB {B : Nat} {L : List Nat} (v : Value) (x n : Nat) (w : World) (hown : OwnB w B v L) (hm : L.length ≤ 1000000000) (hB : B ≤ w.heap.size) (hn : n ≤ 8) :
    Calls Try.prog 52 #[v, .int .u64 (x : Nat), .int .i64 (n : Nat)] w fun e w' => ∃ v', e = .returned v' ∧ OwnB w' B v' (L ++ beB n x) ∧ Below B w w' ∧ KeepT 5 w w' :=
  (rlaid_c v x n w hown hm hB hn).mono fun e w' ⟨v', h1, h2, h3, h4⟩ => ⟨v', h1, by unfold OwnB; rw [List.length_append, beB_len]; exact h2, h3, h4⟩
theorem rTo_n {u : Nat} (hu : u < 18446744073709551616) (h : pFinite (numW u) = true) (w : World) : Calls Try.prog 54 #[.complex .f64 (numW u).1 (numW u).2] w fun e w' => e = .returned (.complex .f32 (u / 4294967296) (u % 4294967296)) ∧ w = w' := by
  obtain ⟨f1, f2⟩ := numW_fin h
  exact rToX_c (narrow_wide (by omega) f1) (narrow_wide (Nat.mod_lt _ (by decide)) f2) w
theorem rw_ok {acc : List SolW} (h : ∀ a ∈ acc, OkW a) (hn : acc.length ≤ 4096) : rwV (acc.map toM) = 0 := by
  unfold rwV
  rw [List.length_map, if_neg (by omega), wrong_ok h]
set_option maxHeartbeats 3200000 in
theorem rEncode_c (acc : List SolW) (hok : ∀ a ∈ acc, OkW a) (hn : acc.length ≤ 4096) (v : Value) (w : World) (h : SolsAt w w.heap.size v (acc.map toM)) : Calls Try.prog 18 #[v] w (RetEnc acc w) := by
  obtain ⟨i0, hi0, hz0, hz1, hz2⟩ := info_parts infoByte
  have HS := Lib.hid h
  obtain ⟨A, c, rfl, -⟩ := h
  rw [List.length_map] at HS ⊢
  obtain ⟨n, hN⟩ : ∃ n, n = acc.length := ⟨_, rfl⟩
  rw [← hN] at HS ⊢
  have hn1 : n ≤ 4096 := by omega
  have hwn : IntKind.u64.wrap (n : Int) = (n : Int) := by
    have h2 : IntKind.u64.wrap (n : Int) = (n : Int) % 18446744073709551616 := by simp [IntKind.wrap, IntKind.bits, IntKind.signed]
    rw [h2]; omega
  have HOk := Lib.hid hok
  have HW := Lib.hid (rwrong_c (acc.map toM) (.slice A n c) w HS.out (by rw [List.length_map]; omega) (fun s hs => by
    obtain ⟨a, ha, rfl⟩ := List.mem_map.1 hs
    exact (hok a ha).lt) (nar_ok hok) (fun s hs => by
    obtain ⟨a, ha, rfl⟩ := List.mem_map.1 hs
    have h1 := (hok a ha).sv
    have h2 := (hok a ha).sy
    unfold toM
    simp
    omega))
  rw [rw_ok hok hn] at HW
  have HN := Lib.hid hN
  clear hok hn hN
  go_enter Try.func18, Try.ntmps18
  go_wp2_with fail
  refine HW.out.mono ?_
  rintro e W1 ⟨rfl, hb1⟩
  have HB1 := Lib.hid hb1
  have HLd := Lib.hid (rlaidB (B := w.heap.size) (L := []) (.slice none 0 0) n 2 W1 (World.ownsRow_nil _ _ _ _) (by simp) hb1.size (by decide))
  clear hb1 HW
  go_wp2_with fail
  refine HLd.out.mono ?_
  rintro e W2 ⟨v1, rfl, ho1, hb2, -⟩
  have HO1 := Lib.hid (show OwnB W2 w.heap.size v1 (preE acc 0) from by
    have e : preE acc 0 = [] ++ beB 2 n := by unfold preE; rw [HN.out]; simp
    rw [e]; exact ho1)
  have HB2 := Lib.hid (HB1.out.trans hb2)
  clear ho1 hb2 HLd hwn
  go_wp2
  go_loopw [5, 6] (fun bv iv wr => ∃ i : Nat, i ≤ n ∧ iv = .int .i64 (i : Nat) ∧ Hid (OwnB wr w.heap.size bv (preE acc i)) ∧ Hid (Below w.heap.size w wr)) (fun _ iv _ => n - (intOf iv).toNat)
  case atStart => exact ⟨0, Nat.zero_le _, rfl, HO1, HB2⟩
  case round =>
    obtain ⟨i, hi, rfl, HO, HB⟩ := hrel
    rename World => wr
    by_cases hin : i < n
    · have hin' : (i : Int) < n := by omega
      obtain ⟨a, ha⟩ := some_of_lt (l := acc) (k := i) (by rw [← HN.out]; exact hin)
      obtain ⟨g, x1, x2, hA, hlt, h0, h1, h2, h3⟩ := (HS.out.below HB.out).at_ (i := i) (s := toM a) (by rw [List.getElem?_map, ha]; rfl)
      subst hA
      obtain ⟨A1, c1, A2, c2, rfl, rfl, h4, h5, h6, h7⟩ := h3
      have HAi := Lib.hid ha
      have HAk := Lib.hid (HOk.out a (List.mem_of_getElem? ha))
      have HR1 := Lib.hid h4
      have HR2 := Lib.hid h5
      have HLd := Lib.hid (rlaidB (B := w.heap.size) u5 (toM a).om 8 wr HO.out (Nat.le_trans (preE_len HOk.out i (by omega)) (by decide)) HB.out.size (by decide))
      have HCs := Lib.hid (fun V (hV : Below w.heap.size wr V) => (show V.cell? ⟨g, i * 3, none⟩ = some (.float .f64 (toM a).om) ∧ V.cell? ⟨g, i * 3 + 1, none⟩ = some (.slice A1 (toM a).vs.length c1) ∧ V.cell? ⟨g, i * 3 + 2, none⟩ = some (.slice A2 (toM a).ys.length c2) from
        ⟨(hV.cell (p := ⟨g, i * 3, none⟩) hlt).trans h0, (hV.cell (p := ⟨g, i * 3 + 1, none⟩) hlt).trans h1, (hV.cell (p := ⟨g, i * 3 + 2, none⟩) hlt).trans h2⟩))
      have hlen : (toM a).om = a.w := rfl
      clear ha h4 h5 h6 h7 hi h1 h2 hlt
      go_wp2_with fail
      refine HLd.out.mono ?_
      rintro e W4 ⟨v2, rfl, ho4, hb4, hk4⟩
      obtain ⟨q0, q1, q2⟩ := HCs.out W4 hb4
      obtain ⟨p, hp⟩ : ∃ p, p = (toM a).vs.length := ⟨_, rfl⟩
      obtain ⟨q, hq⟩ : ∃ q, q = (toM a).ys.length := ⟨_, rfl⟩
      have HPq := Lib.hid (And.intro hp hq)
      have hp6 : p ≤ 64 := by rw [hp]; show (a.v.map numW).length ≤ 64; rw [List.length_map]; exact HAk.out.sv
      have hq6 : q ≤ 64 := by rw [hq]; show (a.a.map numW).length ≤ 64; rw [List.length_map]; exact HAk.out.sy
      rw [← hp, ← hq] at HCs
      rw [← hp] at q1
      rw [← hq] at q2
      have HO4 := Lib.hid ho4
      have HBr4 := Lib.hid hb4
      have HB4 := Lib.hid (HB.out.trans hb4)
      clear ho4 hb4 hk4 hp hq HLd h0
      have hwp : IntKind.u8.wrap (p : Int) = (p : Int) := by
        have h2 : IntKind.u8.wrap (p : Int) = (p : Int) % 256 := by simp [IntKind.wrap, IntKind.bits, IntKind.signed]
        rw [h2]; omega
      have hwq : IntKind.u8.wrap (q : Int) = (q : Int) := by
        have h2 : IntKind.u8.wrap (q : Int) = (q : Int) % 256 := by simp [IntKind.wrap, IntKind.bits, IntKind.signed]
        rw [h2]; omega
      go_upto_region 9 with fail
      have hS9 : W4.drew.cell? ⟨g, i * 3 + 1, none⟩ = some (.slice A1 p c1) ∧ W4.drew.cell? ⟨g, i * 3 + 2, none⟩ = some (.slice A2 q c2) := ⟨q1, q2⟩
      clear q1 q2 q0
      refine wp_region_noPanic ?_
      refine wp_region_held_drew (S := fun V => V.cell? ⟨g, i * 3 + 1, none⟩ = some (.slice A1 p c1) ∧ V.cell? ⟨g, i * 3 + 2, none⟩ = some (.slice A2 q c2)) (by kernel_rfl) hS9 (fun hS0 => ?_)
      refine wpAnyH_take (i := 0) (v := ?vva0) rfl (by kernel_rfl) (by kernel_rfl) (by kernel_rfl) (fun _ _ _ h => h) (Or.inl ⟨rfl, ?yya0⟩) hS0 ?_
      case yya0 => (intro w' hSw; (try dsimp only at hSw); obtain ⟨q1, q2⟩ := hSw; first | (go_simp; done) | (go_simp; with_reducible rfl) | kernel_rfl)
      simp only [Act.put]
      refine wpAnyH_take (i := 1) (v := ?vva1) rfl (by kernel_rfl) (by kernel_rfl) (by kernel_rfl) (fun _ _ _ h => h) (Or.inl ⟨rfl, ?yya1⟩) hS0 ?_
      case yya1 => (intro w' hSw; (try dsimp only at hSw); obtain ⟨q1, q2⟩ := hSw; first | (go_simp; done) | (go_simp; with_reducible rfl) | kernel_rfl)
      simp only [Act.put]
      refine wpAnyH_take (i := 2) (v := ?vva2) rfl (by kernel_rfl) (by kernel_rfl) (by kernel_rfl) (fun _ _ _ h => h) (Or.inl ⟨rfl, ?yya2⟩) hS0 ?_
      case yya2 => (intro w' hSw; (try dsimp only at hSw); obtain ⟨q1, q2⟩ := hSw; first | (go_simp; done) | (go_simp; with_reducible rfl) | kernel_rfl)
      simp only [Act.put]
      refine wpAnyH_take (i := 3) (v := ?vva3) rfl (by kernel_rfl) (by kernel_rfl) (by kernel_rfl) (fun _ _ _ h => h) (Or.inl ⟨rfl, ?yya3⟩) hS0 ?_
      case yya3 => (intro w' hSw; (try dsimp only at hSw); obtain ⟨q1, q2⟩ := hSw; first | (go_simp; done) | (go_simp; with_reducible rfl) | kernel_rfl)
      simp only [Act.put]
      refine wpAnyH_take (i := 4) (v := ?vva4) rfl (by kernel_rfl) (by kernel_rfl) (by kernel_rfl) (fun _ _ _ h => h) (Or.inl ⟨rfl, ?yya4⟩) hS0 ?_
      case yya4 => (intro w' hSw; (try dsimp only at hSw); obtain ⟨q1, q2⟩ := hSw; first | (go_simp; done) | (go_simp; with_reducible rfl) | kernel_rfl)
      simp only [Act.put]
      refine wpAnyH_take (i := 5) (v := ?vva5) rfl (by kernel_rfl) (by kernel_rfl) (by kernel_rfl) (fun _ _ _ h => h) (Or.inl ⟨rfl, ?yya5⟩) hS0 ?_
      case yya5 => (intro w' hSw; (try dsimp only at hSw); obtain ⟨q1, q2⟩ := hSw; first | (go_simp; done) | (go_simp; with_reducible rfl) | kernel_rfl)
      simp only [Act.put]
      refine wpAnyH_take (i := 6) (v := ?vva6) rfl (by kernel_rfl) (by kernel_rfl) (by kernel_rfl) (fun _ _ _ h => h) (Or.inl ⟨rfl, ?yya6⟩) hS0 ?_
      case yya6 => (intro w' hSw; (try dsimp only at hSw); obtain ⟨q1, q2⟩ := hSw; first | (go_simp; done) | (go_simp; with_reducible rfl) | kernel_rfl)
      simp only [Act.put]
      refine wpAnyH_take (i := 7) (v := ?vva7) rfl (by kernel_rfl) (by kernel_rfl) (by kernel_rfl) (fun _ _ _ h => h) (Or.inl ⟨rfl, ?yya7⟩) hS0 ?_
      case yya7 => (intro w' hSw; (try dsimp only at hSw); obtain ⟨q1, q2⟩ := hSw; first | (go_simp; done) | (go_simp; with_reducible rfl) | kernel_rfl)
      simp only [Act.put]
      refine wpAnyH_take (i := 8) (v := ?vva8) rfl (by kernel_rfl) (by kernel_rfl) (by kernel_rfl) (fun _ _ _ h => h) (Or.inl ⟨rfl, ?yya8⟩) hS0 ?_
      case yya8 => (intro w' hSw; (try dsimp only at hSw); obtain ⟨q1, q2⟩ := hSw; first | (go_simp; done) | (go_simp; with_reducible rfl) | kernel_rfl)
      simp only [Act.put]
      refine wpAnyH_take (i := 9) (v := ?vva9) rfl (by kernel_rfl) (by kernel_rfl) (by kernel_rfl) (fun _ _ _ h => h) (Or.inl ⟨rfl, ?yya9⟩) hS0 ?_
      case yya9 => (intro w' hSw; (try dsimp only at hSw); obtain ⟨q1, q2⟩ := hSw; first | (go_simp; done) | (go_simp; with_reducible rfl) | kernel_rfl)
      simp only [Act.put]
      refine wpAnyH_take (i := 10) (v := ?vva10) rfl (by kernel_rfl) (by kernel_rfl) (by kernel_rfl) (fun _ _ _ h => h) (Or.inl ⟨rfl, ?yya10⟩) hS0 ?_
      case yya10 => (intro w' hSw; (try dsimp only at hSw); obtain ⟨q1, q2⟩ := hSw; first | (go_simp; done) | (go_simp; with_reducible rfl) | kernel_rfl)
      simp only [Act.put]
      refine wpAnyH_take (i := 11) (v := ?vva11) rfl (by kernel_rfl) (by kernel_rfl) (by kernel_rfl) (fun _ _ _ h => h) (Or.inl ⟨rfl, ?yya11⟩) hS0 ?_
      case yya11 => (intro w' hSw; (try dsimp only at hSw); obtain ⟨q1, q2⟩ := hSw; first | (go_simp; done) | (go_simp; with_reducible rfl) | kernel_rfl)
      simp only [Act.put]
      refine wpAnyH_take (i := 12) (v := ?vva12) rfl (by kernel_rfl) (by kernel_rfl) (by kernel_rfl) (fun _ _ _ h => h) (Or.inl ⟨rfl, ?yya12⟩) hS0 ?_
      case yya12 => (intro w' hSw; (try dsimp only at hSw); obtain ⟨q1, q2⟩ := hSw; first | (go_simp; done) | (go_simp; with_reducible rfl) | kernel_rfl)
      simp only [Act.put]
      refine wpAnyH_take (i := 13) (v := ?vva13) rfl (by kernel_rfl) (by kernel_rfl) (by kernel_rfl) (fun _ _ _ h => h) (Or.inl ⟨rfl, ?yya13⟩) hS0 ?_
      case yya13 => (intro w' hSw; (try dsimp only at hSw); obtain ⟨q1, q2⟩ := hSw; first | (go_simp; done) | (go_simp; with_reducible rfl) | kernel_rfl)
      simp only [Act.put]
      refine wpAnyH_take (i := 14) (v := ?vva14) rfl (by kernel_rfl) (by kernel_rfl) (by kernel_rfl) (fun _ _ _ h => h) (Or.inl ⟨rfl, ?yya14⟩) hS0 ?_
      case yya14 => (intro w' hSw; (try dsimp only at hSw); obtain ⟨q1, q2⟩ := hSw; first | (go_simp; done) | (go_simp; with_reducible rfl) | kernel_rfl)
      simp only [Act.put]
      refine wpAnyH_ready (rs := [15]) (by kernel_rfl) (by simp) ?_
      refine AllReadyH.cons rfl (fun K hK => ?_) AllReadyH.nil
      go_simp
      obtain ⟨V5, hV5⟩ : ∃ V5, V5 = (W4.alloc (.cells #[.int .u8 (p : Int), .int .u8 (q : Int)] 5)).drew := ⟨_, rfl⟩
      have hb5 : Below W4.heap.size W4 V5 := by rw [hV5]; exact (below_new _ _).drew
      have htn : ∀ j u, [Value.int .u8 (p : Int), .int .u8 (q : Int)][j]? = some u → V5.cell? ((⟨W4.heap.size, 0, none⟩ : Addr).add j) = some u := by rw [hV5]; exact two_new W4 _ _ _
      rw [← hV5]
      clear hV5
      have hbr5 : Below w.heap.size wr V5 := HBr4.out.trans (hb5.mono HB4.out.size)
      refine hK.out _ _ (HCs.out _ hbr5).2 (fun hS1 => ?_)
      clear hK K hS0 hS9
      obtain ⟨L4, hL4⟩ : ∃ L4, L4 = preE acc i ++ beB 8 (toM a).om := ⟨_, rfl⟩
      rw [← hL4] at HO4
      have HL4 := Lib.hid hL4
      have HSz := Lib.hid (show L4.length ≤ 5000008 ∧ L4.length + 2 ≤ maxLen ∧ (L4.length + 2) * 1 ≤ 140737488355328 from by
        have h1 := preE_len HOk.out i (by omega)
        have h2 : L4.length = (preE acc i).length + 8 := by rw [hL4, List.length_append, beB_len]
        unfold maxLen; omega)
      clear hL4
      have hO5 := HO4.out.below hb5
      have hsz5 : w.heap.size ≤ V5.heap.size := Nat.le_trans HB4.out.size hb5.size
      refine wpAnyH_ready (rs := [16]) (by kernel_rfl) (by simp) ?_
      refine AllReadyH.cons rfl (fun K hK => ?_) AllReadyH.nil
      simp only [Act.put]
      refine wp_append_whatever rfl 49 (.tmp 33) (.tmp 48) 22 rfl rfl w.heap.size 5 i0 (.int .u8 0) 1 1 Try.underlying22 hi0 hz0 hz1 hz2 rfl (by decide) _ _ _ rfl hO5 (some ⟨W4.heap.size, 0, none⟩) 2 2 [.int .u8 (p : Int), .int .u8 (q : Int)] rfl (fun h => by cases h) rfl (fun ad e j u hu => by injection e with e; subst e; exact htn j u hu) (by intro u hu; simp at hu; rcases hu with rfl | rfl <;> rfl) HSz.out.2.1 HSz.out.2.2 hsz5 ?_
      intro v3 W5 hown5 hgrow5
      go_simp
      have hr5 : Below w.heap.size wr W5 := hbr5.grown hgrow5 hsz5 (fun k hk => (hO5.lt k hk).1)
      refine hK.out _ _ (HCs.out _ hr5).2 (fun hS2 => ?_)
      clear hK K hS1
      refine wpAnyH_take (i := 17) (v := ?vvb17) rfl (by kernel_rfl) (by kernel_rfl) (by kernel_rfl) (fun _ _ _ h => h) (Or.inl ⟨rfl, ?yyb17⟩) hS2 ?_
      case yyb17 => (intro w' hSw; (try dsimp only at hSw); first | (go_simp; done) | (go_simp; with_reducible rfl) | kernel_rfl)
      go_simp
      refine wpAnyH_done (by kernel_rfl) ?_ _
      refine NoPanic.normal ?_
      obtain ⟨L5, hL5⟩ : ∃ L5, L5 = L4 ++ [p, q] := ⟨_, rfl⟩
      have HL5 := Lib.hid hL5
      have HO5 := Lib.hid (show OwnB W5 w.heap.size v3 L5 from by
        rw [hL5]
        unfold OwnB
        have er : bytesV L4 ++ [.int .u8 (p : Int), .int .u8 (q : Int)] = bytesV (L4 ++ [p, q]) := by simp [bytesV]
        rw [List.length_append, ← er]; exact hown5)
      have HB5 := Lib.hid (HB.out.trans hr5)
      have HNm := Lib.hid (rnumbers_c (toM a).om A1 A2 (toM a).vs (toM a).ys c1 c2 W5 ((HR1.out.below hr5).more HB5.out.size) ((HR2.out.below hr5).more HB5.out.size) (by have := HPq.out.1; omega) (by have := HPq.out.2; omega))
      rw [← HPq.out.1, ← HPq.out.2] at HNm
      obtain ⟨q0, q1, q2⟩ := HCs.out _ hr5
      clear hown5 hgrow5 hr5 hL5 hwp hwq hS2 hO5 hsz5 hbr5 hb5 htn
      go_wp2_with fail
      refine HNm.out.mono ?_
      rintro e W6 ⟨v4, rfl, hown6, hb6⟩
      obtain ⟨l, hl⟩ : ∃ l, l = a.v ++ a.a := ⟨_, rfl⟩
      have hnl : (toM a).vs ++ (toM a).ys = l.map numW := by rw [hl, List.map_append]; rfl
      rw [hnl] at hown6
      obtain ⟨m, hm⟩ : ∃ m, m = l.length := ⟨_, rfl⟩
      rw [List.length_map, ← hm] at hown6
      have HM := Lib.hid hm
      have HLl := Lib.hid hl
      have hm1 : m ≤ 128 := by
        have h1 := HAk.out.sv
        have h2 := HAk.out.sy
        rw [hm, hl, List.length_append]; omega
      have HLk := Lib.hid (fun u (hu : u ∈ l) => (show u < 18446744073709551616 ∧ pFinite (numW u) = true from by
        rw [hl] at hu
        rcases List.mem_append.1 hu with hu | hu
        · exact HAk.out.nv u hu
        · exact HAk.out.na u hu))
      obtain ⟨A4, c4, rfl, -, -, -⟩ := own_reads hown6
      have HOw6 := Lib.hid hown6
      have HB6 := Lib.hid (HB5.out.trans (hb6.mono HB5.out.size))
      have HO6 := Lib.hid (HO5.out.below hb6)
      have HSz5 := Lib.hid (show L5.length ≤ 5000010 from by rw [HL5.out, List.length_append]; have := HSz.out.1; simp; omega)
      clear hown6 hb6 hnl hl hm HNm q0 q1 q2
      go_wp2
      go_loopw [5, 8] (fun bv jv wj => ∃ j : Nat, j ≤ m ∧ jv = .int .i64 (j : Nat) ∧ Hid (OwnB wj w.heap.size bv (L5 ++ encN (l.take j))) ∧ Hid (Below w.heap.size w wj) ∧ Hid (KeepT 5 W6 wj)) (fun _ jv _ => m - (intOf jv).toNat)
      case atStart => exact ⟨0, Nat.zero_le _, rfl, Lib.hid (by simpa [encN] using HO6.out), HB6, Lib.hid (KeepT.refl _ _)⟩
      case round =>
        obtain ⟨j, hj, rfl, HOj, HBj, HKj⟩ := hrel
        rename World => wj
        by_cases hjm : j < m
        · have hjm' : (j : Int) < m := by omega
          obtain ⟨u, hu⟩ := some_of_lt (l := l) (k := j) (by rw [← HM.out]; exact hjm)
          obtain ⟨A4', c4', e4, hr4, -, -⟩ := own_reads (own_keepT HOw6.out (by decide) HKj.out)
          injection e4 with e4 e5 e6
          clear e5
          subst e4
          subst e6
          obtain ⟨ad, hA4, hab, hcz⟩ := hr4.at_ (k := j) (u := .complex .f64 (numW u).1 (numW u).2) (by simp [nums, hu])
          subst hA4
          have HUk := Lib.hid (HLk.out u (List.mem_of_getElem? hu))
          have HTo := Lib.hid (fun V => rTo_n HUk.out.1 HUk.out.2 V)
          obtain ⟨re, hre⟩ : ∃ re, re = u / 4294967296 := ⟨_, rfl⟩
          obtain ⟨im, him⟩ : ∃ im, im = u % 4294967296 := ⟨_, rfl⟩
          have hre4 : re < 4294967296 := by rw [hre]; have := HUk.out.1; omega
          have him4 : im < 4294967296 := by rw [him]; omega
          have HE8 := Lib.hid (show beB 8 u = beB 4 re ++ beB 4 im from by rw [hre, him]; exact be_eight u)
          rw [← hre, ← him] at HTo
          have HLd := Lib.hid (rlaidB (B := w.heap.size) (L := L5 ++ encN (l.take j)) _ re 4 wj HOj.out (by
            have h1 := HSz5.out
            rw [List.length_append, encN_len, List.length_take]; omega) HBj.out.size (by decide))
          have HUj := Lib.hid hu
          clear hu hj hab hr4 hre him
          go_wp2_with fail
          refine (HTo.out _).mono ?_
          rintro e w' ⟨rfl, rfl⟩
          go_wp2_with fail
          refine HLd.out.mono ?_
          rintro e W7 ⟨v7, rfl, ho7, hb7, hk7⟩
          have HB7 := Lib.hid (HBj.out.trans hb7)
          have HLd2 := Lib.hid (rlaidB (B := w.heap.size) _ im 4 W7 ho7 (by
            have h1 := HSz5.out
            rw [List.length_append, List.length_append, encN_len, List.length_take, beB_len]; omega) HB7.out.size (by decide))
          have HK7 := Lib.hid (HKj.out.trans hk7)
          clear ho7 hb7 hk7 HLd hcz
          go_wp2_with fail
          refine HLd2.out.mono ?_
          rintro e W8 ⟨v8, rfl, ho8, hb8, hk8⟩
          have HO8 := Lib.hid (show OwnB W8 w.heap.size v8 (L5 ++ encN (l.take (j + 1))) from by
            rw [encN_take HUj.out, HE8.out, ← List.append_assoc, ← List.append_assoc]; exact ho8)
          have HB8 := Lib.hid (HB7.out.trans hb8)
          have HK8 := Lib.hid (HK7.out.trans hk8)
          clear ho8 hb8 hk8 HLd2
          go_wp2
          go_roundw
          case rel => exact ⟨j + 1, hjm, by go_num, HO8, HB8, HK8⟩
          case measure => simp [intOf]; omega
        · have e : j = m := by omega
          subst e
          have HOe := Lib.hid (show OwnB wj w.heap.size _ (preE acc (i + 1)) from by
            have h := HOj.out
            rw [List.take_of_length_le (by rw [← HM.out]; exact Nat.le_refl _), encW_end HAi.out HL4.out HL5.out HLl.out (HPq.out.1.trans (List.length_map ..)) (HPq.out.2.trans (List.length_map ..)) hp6 hq6] at h
            exact h)
          clear hj HOj
          go_wp2
          go_roundw
          case rel => exact ⟨i + 1, hin, by go_num, HOe, HBj⟩
          case measure => simp [intOf]; omega
    · have e : i = n := by omega
      subst e
      have HOe := Lib.hid (show OwnB wr w.heap.size _ (encS acc) from by
        have h := HO.out
        rw [HN.out, preE_all] at h
        exact h)
      clear hi HO
      go_wp2
      go_ret2
      exact ⟨_, rfl, HOe.out, HB.out⟩
/-- What is refused. -/
theorem rEncode_no (S : List SolM) (v : Value) (w : World) (h : SolsAt w w.heap.size v S) (hn : S.length ≤ 1000000) (hom : ∀ s ∈ S, s.om < 18446744073709551616) (hz : ∀ s ∈ S, ∀ z ∈ s.vs ++ s.ys, Nar1 z) (hl : ∀ s ∈ S, s.vs.length ≤ 100000 ∧ s.ys.length ≤ 100000) (hw : rwV S ≠ 0) :
    Calls Try.prog 18 #[v] w fun e w' => ∃ er : Int, er ≠ 0 ∧ e = .returned (.tuple #[.slice none 0 0, .int .i64 er]) ∧ Below w.heap.size w w' := by
  have HW := Lib.hid (rwrong_c S v w h hn hom hz hl)
  obtain ⟨er, her⟩ : ∃ er, er = rwV S := ⟨_, rfl⟩
  rw [← her] at HW hw
  clear h hn hom hz hl her
  go_enter Try.func18, Try.ntmps18
  go_wp2_with fail
  refine HW.out.mono ?_
  rintro e W1 ⟨rfl, hb1⟩
  have HB1 := Lib.hid hb1
  have HE := Lib.hid hw
  go_wp2
  go_ret2
  exact ⟨er, HE.out, rfl, HB1.out⟩
end Go.Proofs.Ytpfjidijecgjcaa
