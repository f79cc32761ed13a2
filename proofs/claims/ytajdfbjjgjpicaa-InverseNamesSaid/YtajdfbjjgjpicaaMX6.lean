/- Layer 7: numbers out of bits, lists that are the same, rows. -/
import Derived.Test.YtajdfbjjgjpicaaMX4
namespace Go.Proofs.Ytajdfbjjgjpicaa
open Go.RowKit Fl Ieee
set_option maxRecDepth 20000
attribute [local go_sem] run_store_float run_store_complex
/-- The cells of a list of numbers by their bits. -/
def zcells (l : List C) : List Value := l.flatMap fun z => [.int .u64 (z.1 : Nat), .int .u64 (z.2 : Nat)]
theorem zcells_at {l : List C} {k : Nat} {z : C} (h : l[k]? = some z) : (zcells l)[2 * k]? = some (.int .u64 (z.1 : Nat)) ∧ (zcells l)[2 * k + 1]? = some (.int .u64 (z.2 : Nat)) := by
  induction l generalizing k with
  | nil => simp at h
  | cons a t ih =>
    have e : zcells (a :: t) = [.int .u64 (a.1 : Nat), .int .u64 (a.2 : Nat)] ++ zcells t := rfl
    cases k with
    | zero => simp at h; subst h; rw [e]; simp
    | succ k =>
      have h1 := ih (k := k) (by simpa using h)
      rw [e]
      constructor
      · rw [List.getElem?_append_right (by simp; omega)]
        have : 2 * (k + 1) - [Value.int IntKind.u64 (a.1 : Nat), .int .u64 (a.2 : Nat)].length = 2 * k := by simp; omega
        rw [this]; exact h1.1
      · rw [List.getElem?_append_right (by simp; omega)]
        have : 2 * (k + 1) + 1 - [Value.int IntKind.u64 (a.1 : Nat), .int .u64 (a.2 : Nat)].length = 2 * k + 1 := by simp; omega
        rw [this]; exact h1.2
/-- A list in memory of its own. -/
def RetL (l : List C) (w : World) (e : Ending) (w' : World) : Prop := ∃ s, e = .returned s ∧ w'.ownsRow w.heap.size 53 1 s l.length (nums l) ∧ Below w.heap.size w w'
def NumbersR (l : List C) (w : World) (s i : Value) (wr : World) : Prop :=
  ∃ k : Nat, k ≤ l.length ∧ i = .int .i64 (k : Nat) ∧ wr.ownsRow w.heap.size 53 1 s k (nums (l.take k)) ∧ Below w.heap.size w wr
set_option maxHeartbeats 1000000 in
theorem Numbers_c (A : Option Addr) (l : List C) (c : Nat) (w : World) (hl : l.length ≤ 1000000) (hr : Reads w w.heap.size A (zcells l)) :
    Calls Try.prog 10 #[.slice A l.length c] w (RetL l w) := by
  obtain ⟨i0, hi, hz0, hz1, hz2⟩ := info_parts infoNum
  have HR := Lib.hid hr
  clear hr
  go_enter Try.func10, Try.ntmps10
  go_wp2
  go_loopw [3, 4] (fun s i wr => NumbersR l w s i wr) (fun _ i _ => l.length - (intOf i).toNat)
  case atStart => exact ⟨0, Nat.zero_le _, rfl, World.ownsRow_nil _ _ _ _, Below.refl _ _⟩
  case round =>
    obtain ⟨k, hk, rfl, hown, hb⟩ := hrel
    have HB := Lib.hid hb
    have HO := Lib.hid hown
    clear hb hown
    by_cases hlt : k < l.length
    · obtain ⟨z, hz⟩ : ∃ z, l[k]? = some z := ⟨l[k], List.getElem?_eq_getElem hlt⟩
      obtain ⟨h1, h2⟩ := zcells_at hz
      obtain ⟨ad, rfl, hab, hc1⟩ := (HR.out.below HB.out).at_ h1
      obtain ⟨ad2, e2, _, hc2⟩ := (HR.out.below HB.out).at_ h2
      have e3 : ad = ad2 := by simpa using e2
      subst e3
      have HZ := Lib.hid hz
      have hd1 : wr.cell? (ad.add (k * 2)) = some (.int .u64 (z.1 : Nat)) := by rw [Nat.mul_comm]; exact hc1
      have hd2 : wr.cell? { block := (ad.add (k * 2)).block, off := (ad.add (k * 2)).off + 1 } = some (.int .u64 (z.2 : Nat)) := by
        have e4 : ad.add (2 * k + 1) = (ad.add (k * 2)).add 1 := by rw [add_of_add, Nat.mul_comm]
        rw [e4] at hc2; exact hc2
      clear hz h1 h2 e2 hc1 hc2
      go_wp2_with (fail)
      refine (Number_c _ _ _).mono ?_
      rintro e w' ⟨n, rfl, rfl⟩
      have hsz := HB.out.size
      have hsz2 : ∀ o, wr.heap.size + 1 = ((wr.alloc o).drewN n).heap.size := fun o => by rw [size_drewN]; simp
      go_wp2_with (at_builtin; refine wpList_append_own _ rfl (.tmp 11) (.tmp 17) 25 rfl w.heap.size 53 i0 (.complex .f64 0 0) 1 16 Try.underlying25 hi hz0 hz1 hz2 rfl (by decide) _ _ _ rfl ((own_drewN (HO.out.alloc _) n).alloc _) ⟨wr.heap.size + 1, 0, none⟩ 1 1 [.complex .f64 z.1 z.2] rfl rfl (cell_one_at _ _ _ (hsz2 _)) (by intro u hu; simp at hu; subst hu; rfl) (by unfold maxLen; omega) (by omega) (Nat.le_trans hsz (Nat.le_trans (below_new wr _).size (below_new ((wr.alloc _).drewN n) _).size)) ?_; intro v' w1 hown1 hgrow1 hnil1)
      clear hnil1
      have hlen : (l.take (k + 1)) = l.take k ++ [z] := by
        have hk2 : l[k] = z := by have := HZ.out; rw [List.getElem?_eq_getElem hlt] at this; exact Option.some.inj this
        rw [List.take_succ_eq_append_getElem hlt, hk2]
      have H5 : w1.ownsRow w.heap.size 53 1 v' (k + 1) (nums (l.take (k + 1))) := by
        rw [hlen]
        have e : nums (l.take k ++ [z]) = nums (l.take k) ++ [.complex .f64 z.1 z.2] := by simp [nums]
        rw [e]; exact hown1
      have H4 : Below w.heap.size w w1 := ((below_drewN (HB.out.new (Nat.le_refl _) _) n).new (Nat.le_refl _) _).grown hgrow1 (Nat.le_trans hsz (Nat.le_trans (below_new wr _).size (below_new ((wr.alloc _).drewN n) _).size)) (fun j hj => (HO.out.lt j hj).1)
      go_roundw
      case rel => exact ⟨k + 1, hlt, by go_num, H5, H4⟩
      case measure => simp [intOf]; omega
    · have e : k = l.length := by omega
      subst e
      go_wp2
      go_ret
      refine ⟨_, rfl, ?_, HB.out⟩
      have h := HO.out
      rw [List.take_length] at h; exact h
end Go.Proofs.Ytajdfbjjgjpicaa
namespace Go.Proofs.Ytajdfbjjgjpicaa
open Go.RowKit Fl Ieee
set_option maxRecDepth 20000
attribute [local go_sem] run_store_float run_store_complex
theorem wrap_small (x : Nat) (h : x ≤ 4096) : wrap64 (x : Int) = (x : Int) := by unfold wrap64; omega
theorem wrap_sum (x y : Nat) (h : x + y ≤ 4096) : wrap64 ((x : Int) + (y : Int)) = (x : Int) + (y : Int) := by unfold wrap64; omega
theorem frame0 {w W1 : World} {r c : Int} {s : Value} {t : TypeId} (hb : Below (w.alloc (.cells #[.int .i64 r, .int .i64 c, s] t)).heap.size (w.alloc (.cells #[.int .i64 r, .int .i64 c, s] t)) W1) :
    Box W1 w.heap.size r c s ∧ Below w.heap.size w W1 ∧ w.heap.size < W1.heap.size := by
  obtain ⟨w1, hw1⟩ : ∃ w1, w1 = w.alloc (.cells #[.int .i64 r, .int .i64 c, s] t) := ⟨_, rfl⟩
  have e1 : w1.heap.size = w.heap.size + 1 := by rw [hw1]; simp
  have hbx : Box w1 w.heap.size r c s := by rw [hw1]; exact Box.new _ _ _ _ _
  have hb1 : Below w.heap.size w w1 := by rw [hw1]; exact below_new _ _
  rw [← hw1] at hb
  exact ⟨hbx.below hb (by omega), hb1.trans (hb.mono (by omega)), by have := hb.size; omega⟩
end Go.Proofs.Ytajdfbjjgjpicaa
namespace Go.Proofs.Ytajdfbjjgjpicaa
open Go.RowKit Fl Ieee
set_option maxRecDepth 20000
attribute [local go_sem] run_store_float run_store_complex
theorem kSameNumber_t (p q : C) (h : cnC p = cnC q) (w : World) :
    Calls Try.prog 76 #[.complex .f64 p.1 p.2, .complex .f64 q.1 q.2] w fun e w' => e = .returned (.bool true) ∧ w = w' := by
  have h1 : ∀ W : World, Calls Try.prog 14 #[.float .f64 p.1, .float .f64 q.1] W fun e w' => e = .returned (.bool true) ∧ W = w' := fun W => by
    have := kSameReal_c p.1 q.1 W
    rwa [decide_eq_true (congrArg Prod.fst h)] at this
  have h2 : ∀ W : World, Calls Try.prog 14 #[.float .f64 p.2, .float .f64 q.2] W fun e w' => e = .returned (.bool true) ∧ W = w' := fun W => by
    have := kSameReal_c p.2 q.2 W
    rwa [decide_eq_true (congrArg Prod.snd h)] at this
  have H1 := Lib.hid h1
  have H2 := Lib.hid h2
  clear h h1 h2
  go_enter Try.func76, Try.ntmps76
  go_wp2_with fail
  refine (H1.out _).mono ?_
  rintro e w' ⟨rfl, rfl⟩
  go_wp2_with fail
  refine (H2.out _).mono ?_
  rintro e w' ⟨rfl, rfl⟩
  go_wp2
  go_ret; exact ⟨rfl, rfl⟩
def SameN (l : List C) (w : World) (i : Value) (wr : World) : Prop := ∃ k m : Nat, k ≤ l.length ∧ i = .int .i64 (k : Nat) ∧ wr = w.drewN m
set_option maxHeartbeats 1000000 in
theorem SameNumbers_t (A B : Option Addr) (l m : List C) (n c c' : Nat) (w : World) (hn : l.length = n) (hm : m.length = n) (h : l.map cnC = m.map cnC) (hmax : n ≤ 4611686018427387904)
    (hA : Reads w w.heap.size A (nums l)) (hB : Reads w w.heap.size B (nums m)) :
    Calls Try.prog 41 #[.slice A n c, .slice B n c'] w (RetB true w) := by
  have HA := Lib.hid hA
  have HB := Lib.hid hB
  have HH := Lib.hid h
  have HN := Lib.hid hn
  have HM := Lib.hid hm
  clear hA hB h hn hm
  go_enter Try.func41, Try.ntmps41
  go_wp2
  go_loopw [5] (fun i wr => SameN l w i wr) (fun i _ => n - (intOf i).toNat)
  case atStart => exact ⟨0, 0, Nat.zero_le _, rfl, rfl⟩
  case round =>
    obtain ⟨k, d, hk, rfl, rfl⟩ := hrel
    have hkn : k ≤ n := by rw [← HN.out]; exact hk
    clear hk
    by_cases hlt : k < n
    · obtain ⟨x, hx⟩ := some_of_lt (l := l) (k := k) (by rw [HN.out]; exact hlt)
      obtain ⟨y, hy⟩ := some_of_lt (l := m) (k := k) (by rw [HM.out]; exact hlt)
      have e : cnC x = cnC y := by
        have h1 := congrArg (fun t : List C => t[k]?) HH.out
        simp [hx, hy] at h1; exact Prod.ext h1.1 h1.2
      have hxv : (nums l)[k]? = some (.complex .f64 x.1 x.2) := by simp [nums, hx]
      have hyv : (nums m)[k]? = some (.complex .f64 y.1 y.2) := by simp [nums, hy]
      obtain ⟨ad, rfl, _, hc1⟩ := HA.out.at_ hxv
      obtain ⟨bd, rfl, _, hc2⟩ := HB.out.at_ hyv
      have HS := Lib.hid (kSameNumber_t x y e)
      clear e hx hy hxv hyv
      go_wp2
      go_quiet ((go_at_call 76; exact quiet_add_left (HS.out _)))
      go_wp2
      go_roundw
      case rel => exact ⟨k + 1, _, by rw [HN.out]; omega, by go_num, rfl⟩
      case measure => simp [intOf]; omega
    · go_wp2
      go_ret
      exact closeB rfl
end Go.Proofs.Ytajdfbjjgjpicaa
