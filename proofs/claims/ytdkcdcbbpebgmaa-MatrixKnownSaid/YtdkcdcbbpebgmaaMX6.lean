/- Layer 7: numbers out of bits, lists that are the same, rows. -/
import Derived.Test.YtdkcdcbbpebgmaaMX5
namespace Go.Proofs.Ytdkcdcbbpebgmaa
open Go.RowKit Fl Ieee
set_option maxRecDepth 20000
attribute [local go_sem] run_store_float run_store_complex
/-- The cells of a list of numbers by their bits. -/
def zcells (l : List C) : List Value := l.flatMap fun z => [.int .u64 (z.1 : Nat), .int .u64 (z.2 : Nat)]
theorem zcells_at {l : List C} {k : Nat} {z : C} (h : l[k]? = some z) : (zcells l)[2 * k]? = some (.int .u64 (z.1 : Nat)) ∧ (zcells l)[2 * k + 1]? = some (.int .u64 (z.2 : Nat)) := by
  induction l generalizing k with
  | nil => simp at h
  | cons a t ih =>
    have e : zcells (a :: t) = [.int .u64 (a.1 : Nat), .int .u64 (a.2 : Nat)] ++ zcells t := rfl
    cases k with
    | zero => simp at h; subst h; rw [e]; simp
    | succ k =>
      have h1 := ih (k := k) (by simpa using h)
      rw [e]
      constructor
      · rw [List.getElem?_append_right (by simp; omega)]
        have : 2 * (k + 1) - [Value.int IntKind.u64 (a.1 : Nat), .int .u64 (a.2 : Nat)].length = 2 * k := by simp; omega
        rw [this]; exact h1.1
      · rw [List.getElem?_append_right (by simp; omega)]
        have : 2 * (k + 1) + 1 - [Value.int IntKind.u64 (a.1 : Nat), .int .u64 (a.2 : Nat)].length = 2 * k + 1 := by simp; omega
        rw [this]; exact h1.2
/-- A list in memory of its own. -/
def RetL (l : List C) (w : World) (e : Ending) (w' : World) : Prop := ∃ s, e = .returned s ∧ w'.ownsRow w.heap.size 63 1 s l.length (nums l) ∧ Below w.heap.size w w'
def NumbersR (l : List C) (w : World) (s i : Value) (wr : World) : Prop :=
  ∃ k : Nat, k ≤ l.length ∧ i = .int .i64 (k : Nat) ∧ wr.ownsRow w.heap.size 63 1 s k (nums (l.take k)) ∧ Below w.heap.size w wr
set_option maxHeartbeats 1000000 in
theorem Numbers_c (A : Option Addr) (l : List C) (c : Nat) (w : World) (hl : l.length ≤ 1000000) (hr : Reads w w.heap.size A (zcells l)) :
    Calls Try.prog 10 #[.slice A l.length c] w (RetL l w) := by
  obtain ⟨i0, hi, hz0, hz1, hz2⟩ := info_parts infoNum
  have HR := Lib.hid hr
  clear hr
  go_enter Try.func10, Try.ntmps10
  go_wp2
  go_loopw [3, 4] (fun s i wr => NumbersR l w s i wr) (fun _ i _ => l.length - (intOf i).toNat)
  case atStart => exact ⟨0, Nat.zero_le _, rfl, World.ownsRow_nil _ _ _ _, Below.refl _ _⟩
  case round =>
    obtain ⟨k, hk, rfl, hown, hb⟩ := hrel
    have HB := Lib.hid hb
    have HO := Lib.hid hown
    clear hb hown
    by_cases hlt : k < l.length
    · obtain ⟨z, hz⟩ : ∃ z, l[k]? = some z := ⟨l[k], List.getElem?_eq_getElem hlt⟩
      obtain ⟨h1, h2⟩ := zcells_at hz
      obtain ⟨ad, rfl, hab, hc1⟩ := (HR.out.below HB.out).at_ h1
      obtain ⟨ad2, e2, _, hc2⟩ := (HR.out.below HB.out).at_ h2
      have e3 : ad = ad2 := by simpa using e2
      subst e3
      have HZ := Lib.hid hz
      have hd1 : wr.cell? (ad.add (k * 2)) = some (.int .u64 (z.1 : Nat)) := by rw [Nat.mul_comm]; exact hc1
      have hd2 : wr.cell? { block := (ad.add (k * 2)).block, off := (ad.add (k * 2)).off + 1 } = some (.int .u64 (z.2 : Nat)) := by
        have e4 : ad.add (2 * k + 1) = (ad.add (k * 2)).add 1 := by rw [add_of_add, Nat.mul_comm]
        rw [e4] at hc2; exact hc2
      clear hz h1 h2 e2 hc1 hc2
      go_wp2_with (fail)
      refine (Number_c _ _ _).mono ?_
      rintro e w' ⟨n, rfl, rfl⟩
      have hsz := HB.out.size
      have hsz2 : ∀ o, wr.heap.size + 1 = ((wr.alloc o).drewN n).heap.size := fun o => by rw [size_drewN]; simp
      go_wp2_with (at_builtin; refine wpList_append_own _ rfl (.tmp 11) (.tmp 17) 26 rfl w.heap.size 63 i0 (.complex .f64 0 0) 1 16 Try.underlying26 hi hz0 hz1 hz2 rfl (by decide) _ _ _ rfl ((own_drewN (HO.out.alloc _) n).alloc _) ⟨wr.heap.size + 1, 0, none⟩ 1 1 [.complex .f64 z.1 z.2] rfl rfl (cell_one_at _ _ _ (hsz2 _)) (by intro u hu; simp at hu; subst hu; rfl) (by unfold maxLen; omega) (by omega) (Nat.le_trans hsz (Nat.le_trans (below_new wr _).size (below_new ((wr.alloc _).drewN n) _).size)) ?_; intro v' w1 hown1 hgrow1 hnil1)
      clear hnil1
      have hlen : (l.take (k + 1)) = l.take k ++ [z] := by
        have hk2 : l[k] = z := by have := HZ.out; rw [List.getElem?_eq_getElem hlt] at this; exact Option.some.inj this
        rw [List.take_succ_eq_append_getElem hlt, hk2]
      have H5 : w1.ownsRow w.heap.size 63 1 v' (k + 1) (nums (l.take (k + 1))) := by
        rw [hlen]
        have e : nums (l.take k ++ [z]) = nums (l.take k) ++ [.complex .f64 z.1 z.2] := by simp [nums]
        rw [e]; exact hown1
      have H4 : Below w.heap.size w w1 := ((below_drewN (HB.out.new (Nat.le_refl _) _) n).new (Nat.le_refl _) _).grown hgrow1 (Nat.le_trans hsz (Nat.le_trans (below_new wr _).size (below_new ((wr.alloc _).drewN n) _).size)) (fun j hj => (HO.out.lt j hj).1)
      go_roundw
      case rel => exact ⟨k + 1, hlt, by go_num, H5, H4⟩
      case measure => simp [intOf]; omega
    · have e : k = l.length := by omega
      subst e
      go_wp2
      go_ret
      refine ⟨_, rfl, ?_, HB.out⟩
      have h := HO.out
      rw [List.take_length] at h; exact h
end Go.Proofs.Ytdkcdcbbpebgmaa
