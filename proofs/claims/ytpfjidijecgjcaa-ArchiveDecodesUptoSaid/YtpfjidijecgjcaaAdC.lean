/- Layer 31: a number is laid behind bytes. -/
import Derived.Test.YtpfjidijecgjcaaAdB
import Derived.Test.YtpfjidijecgjcaaBas
import Derived.Deep.DeepCutAuto
namespace Fl
theorem beB_get : ∀ {n x j : Nat}, j < n → (beB n x)[j]? = some (x / 256 ^ (n - 1 - j) % 256)
  | 0, x, j, h => by omega
  | n + 1, x, j, h => by
    show (beB n (x / 256) ++ [x % 256])[j]? = _
    by_cases hj : j < n
    · rw [List.getElem?_append_left (by rw [beB_len]; exact hj), beB_get hj, Nat.div_div_eq_div_mul]
      have e : n + 1 - 1 - j = (n - 1 - j) + 1 := by omega
      rw [e, Nat.pow_succ, Nat.mul_comm 256]
    · have e : j = n := by omega
      subst e
      rw [List.getElem?_append_right (by rw [beB_len]; exact Nat.le_refl _), beB_len, Nat.sub_self]
      have e2 : j + 1 - 1 - j = 0 := by omega
      rw [e2, Nat.pow_zero, Nat.div_one]
      rfl
theorem beB_take {n x j : Nat} (h : j < n) : (beB n x).take (j + 1) = (beB n x).take j ++ [x / 256 ^ (n - 1 - j) % 256] := by
  have hl : j < (beB n x).length := by rw [beB_len]; exact h
  rw [List.take_succ_eq_append_getElem hl]
  congr 2
  have h1 := beB_get (x := x) h
  rw [List.getElem?_eq_getElem hl] at h1
  exact Option.some.inj h1
end Fl
namespace Go.Proofs.Ytpfjidijecgjcaa
open Go.RowKit Fl Ieee
set_option maxRecDepth 20000
attribute [local go_sem] run_store_float run_store_complex
theorem infoByte : (Try.prog.info? 5).map (fun i => (i.zero, i.size, i.bytes)) = some (some (.int .u8 0), 1, 1) := by kernel_rfl
/-- All blocks but those of one type are as they were. -/
structure KeepT (e : TypeId) (w w' : World) : Prop where
  sz : w.heap.size ≤ w'.heap.size
  blk : ∀ k, k < w.heap.size → (∀ cur f, w.heap[k]? ≠ some (.cells cur e f)) → w'.heap[k]? = w.heap[k]?
theorem KeepT.refl (e : TypeId) (w : World) : KeepT e w w := ⟨Nat.le_refl _, fun _ _ _ => rfl⟩
theorem KeepT.trans {e : TypeId} {a b c : World} (h : KeepT e a b) (k : KeepT e b c) : KeepT e a c :=
  ⟨Nat.le_trans h.sz k.sz, fun j hj hn => by
    have e1 := h.blk j hj hn
    rw [k.blk j (Nat.lt_of_lt_of_le hj h.sz) (fun cur f => by rw [e1]; exact hn cur f), e1]⟩
theorem KeepT.below {e : TypeId} {a b : World} (h : Below a.heap.size a b) : KeepT e a b := ⟨h.size, fun j hj _ => h.block j hj⟩
theorem KeepT.grown {e : TypeId} {a b : World} {B size n : Nat} {v : Value} {xs : List Value} (h : a.ownsRow B e size v n xs) (hg : a.grownBy b v.ownBlock) : KeepT e a b :=
  ⟨hg.size, fun j hj hn => hg.block j hj (fun ej => by
    rcases h.2 with ⟨rfl, -⟩ | ⟨q, cap, cur, rfl, -, hq, -⟩
    · cases ej
    · have e1 : j = q := by injection ej
      subst e1
      exact hn _ _ hq)⟩
theorem laid_c {B m : Nat} {L : List Nat} (v : Value) (x n : Nat) (w : World) (hown : w.ownsRow B 5 1 v m (bytesV L)) (hm : m ≤ 1000000000) (hB : B ≤ w.heap.size) (hn : n ≤ 8) :
    Calls Try.prog 46 #[v, .int .u64 (x : Nat), .int .i64 (n : Nat)] w fun e w' => ∃ v', e = .returned v' ∧ w'.ownsRow B 5 1 v' (m + n) (bytesV (L ++ beB n x)) ∧ Below B w w' ∧ KeepT 5 w w' := by
  obtain ⟨i0, hi0, hz0, hz1, hz2⟩ := info_parts infoByte
  have HO0 := Lib.hid hown
  obtain ⟨A0, c0, rfl, -, -, -⟩ := own_reads hown
  have hw1 : wrap64 ((n : Int) - 1) = (n : Int) - 1 := by unfold wrap64; omega
  clear hown
  go_enter Try.func46, Try.ntmps46
  go_wp2
  clear hw1
  go_loopw [0, 7] (fun bv iv wr => ∃ j : Nat, j ≤ n ∧ iv = .int .i64 ((n : Int) - 1 - (j : Nat)) ∧ Hid (wr.ownsRow B 5 1 bv (m + j) (bytesV (L ++ (beB n x).take j))) ∧ Hid (Below B w wr) ∧ Hid (KeepT 5 w wr)) (fun _ iv _ => (intOf iv + 1).toNat)
  case atStart => exact ⟨0, Nat.zero_le _, by simp, Lib.hid (by simpa using HO0.out), Lib.hid (Below.refl _ _), Lib.hid (KeepT.refl _ _)⟩
  case round =>
    obtain ⟨j, hj, rfl, HO, HBl, HKt⟩ := hrel
    rename World => wr
    by_cases hjn : j < n
    · obtain ⟨t, ht⟩ : ∃ t : Nat, t = n - 1 - j := ⟨_, rfl⟩
      have et : (n : Int) - 1 - (j : Nat) = (t : Nat) := by omega
      have HT := Lib.hid ht
      rw [et]
      have ht8 : t < 8 := by omega
      have h8t : wrap64 (8 * (t : Int)) = ((8 * t : Nat) : Int) := by unfold wrap64; omega
      have HSz := Lib.hid (show m + j + 1 ≤ maxLen ∧ (m + j + 1) * 1 ≤ 140737488355328 from by unfold maxLen; omega)
      clear et ht hj
      have hBs := HBl.out.size
      have HBw := Lib.hid (show B ≤ wr.heap.size by omega)
      clear hBs
      go_wp2_with (at_builtin; refine wpList_append_stays _ rfl (.tmp 14) (.tmp 20) 22 rfl B 5 i0 (.int .u8 0) 1 Try.underlying22 hi0 hz0 hz1 hz2 rfl _ _ _ rfl (HO.out.alloc _) ⟨wr.heap.size, 0, none⟩ 1 1 [.int .u8 ((x : Int) / 2 ^ (8 * t) % 256)] rfl rfl (cell_one_new _ _ _) (by intro u hu; simp at hu; subst hu; rfl) HSz.out.1 HSz.out.2 (Nat.le_trans HBw.out (below_new _ _).size) ?_; intro v' w2 hown1 hgrow1 hat1)
      have HB3 := Lib.hid ((HBl.out.trans ((below_new wr (.cells #[.int .u8 ((x : Int) / 2 ^ (8 * t) % 256)] 5)).mono HBw.out)).grown hgrow1 (Nat.le_trans HBw.out (below_new _ _).size) (fun k hk => (HO.out.lt k hk).1))
      have HK3 := Lib.hid ((HKt.out.trans (KeepT.below (below_new wr (.cells #[.int .u8 ((x : Int) / 2 ^ (8 * t) % 256)] 5)))).trans (KeepT.grown (HO.out.alloc _) hgrow1))
      have HO3 := Lib.hid (show w2.ownsRow B 5 1 v' (m + (j + 1)) (bytesV (L ++ (beB n x).take (j + 1))) from by
        have er : bytesV (L ++ (beB n x).take j) ++ [.int .u8 ((x : Int) / 2 ^ (8 * t) % 256)] = bytesV (L ++ (beB n x).take (j + 1)) := by
          rw [beB_take hjn, ← HT.out]
          have e : (256 : Nat) ^ t = 2 ^ (8 * t) := by rw [Nat.pow_mul]
          rw [e]
          simp [bytesV]
        rw [← er]; exact hown1)
      clear hown1 hgrow1 hat1
      go_roundw
      case rel => exact ⟨j + 1, hjn, by have := HT.out; go_num, HO3, HB3, HK3⟩
      case measure => simp [intOf]
    · have e : j = n := by omega
      subst e
      have hneg : ¬ ((j : Int) - 1 - (j : Nat) ≥ 0) := by omega
      go_wp2
      go_ret
      refine ⟨_, rfl, ?_, HBl.out, HKt.out⟩
      have h := HO.out
      rw [List.take_of_length_le (by rw [beB_len]; exact Nat.le_refl _)] at h
      exact h
end Go.Proofs.Ytpfjidijecgjcaa
