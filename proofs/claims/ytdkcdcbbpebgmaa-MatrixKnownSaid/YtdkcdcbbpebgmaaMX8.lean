/- Layer 7: lists of numbers that are the same. -/
import Derived.Test.YtdkcdcbbpebgmaaMX7
namespace Go.Proofs.Ytdkcdcbbpebgmaa
open Go.RowKit Fl Ieee
set_option maxRecDepth 20000
attribute [local go_sem] run_store_float run_store_complex
theorem kSameNumber_t (p q : C) (h : cnC p = cnC q) (w : World) :
    Calls Try.prog 77 #[.complex .f64 p.1 p.2, .complex .f64 q.1 q.2] w fun e w' => e = .returned (.bool true) ∧ w = w' := by
  have h1 : ∀ W : World, Calls Try.prog 23 #[.float .f64 p.1, .float .f64 q.1] W fun e w' => e = .returned (.bool true) ∧ W = w' := fun W => by
    have := kSameReal_c p.1 q.1 W
    rwa [decide_eq_true (congrArg Prod.fst h)] at this
  have h2 : ∀ W : World, Calls Try.prog 23 #[.float .f64 p.2, .float .f64 q.2] W fun e w' => e = .returned (.bool true) ∧ W = w' := fun W => by
    have := kSameReal_c p.2 q.2 W
    rwa [decide_eq_true (congrArg Prod.snd h)] at this
  have H1 := Lib.hid h1
  have H2 := Lib.hid h2
  clear h h1 h2
  go_enter Try.func77, Try.ntmps77
  go_wp2_with fail
  refine (H1.out _).mono ?_
  rintro e w' ⟨rfl, rfl⟩
  go_wp2_with fail
  refine (H2.out _).mono ?_
  rintro e w' ⟨rfl, rfl⟩
  go_wp2
  go_ret; exact ⟨rfl, rfl⟩
def SameN (l : List C) (w : World) (i : Value) (wr : World) : Prop := ∃ k m : Nat, k ≤ l.length ∧ i = .int .i64 (k : Nat) ∧ wr = w.drewN m
set_option maxHeartbeats 1000000 in
theorem SameNumbers_t (A B : Option Addr) (l m : List C) (n c c' : Nat) (w : World) (hn : l.length = n) (hm : m.length = n) (h : l.map cnC = m.map cnC) (hmax : n ≤ 4611686018427387904)
    (hA : Reads w w.heap.size A (nums l)) (hB : Reads w w.heap.size B (nums m)) :
    Calls Try.prog 27 #[.slice A n c, .slice B n c'] w (RetB true w) := by
  have HA := Lib.hid hA
  have HB := Lib.hid hB
  have HH := Lib.hid h
  have HN := Lib.hid hn
  have HM := Lib.hid hm
  clear hA hB h hn hm
  go_enter Try.func27, Try.ntmps27
  go_wp2
  go_loopw [5] (fun i wr => SameN l w i wr) (fun i _ => n - (intOf i).toNat)
  case atStart => exact ⟨0, 0, Nat.zero_le _, rfl, rfl⟩
  case round =>
    obtain ⟨k, d, hk, rfl, rfl⟩ := hrel
    have hkn : k ≤ n := by rw [← HN.out]; exact hk
    clear hk
    by_cases hlt : k < n
    · obtain ⟨x, hx⟩ := some_of_lt (l := l) (k := k) (by rw [HN.out]; exact hlt)
      obtain ⟨y, hy⟩ := some_of_lt (l := m) (k := k) (by rw [HM.out]; exact hlt)
      have e : cnC x = cnC y := by
        have h1 := congrArg (fun t : List C => t[k]?) HH.out
        simp [hx, hy] at h1; exact Prod.ext h1.1 h1.2
      have hxv : (nums l)[k]? = some (.complex .f64 x.1 x.2) := by simp [nums, hx]
      have hyv : (nums m)[k]? = some (.complex .f64 y.1 y.2) := by simp [nums, hy]
      obtain ⟨ad, rfl, _, hc1⟩ := HA.out.at_ hxv
      obtain ⟨bd, rfl, _, hc2⟩ := HB.out.at_ hyv
      have HS := Lib.hid (kSameNumber_t x y e)
      clear e hx hy hxv hyv
      go_wp2
      go_quiet ((go_at_call 77; exact quiet_add_left (HS.out _)))
      go_wp2
      go_roundw
      case rel => exact ⟨k + 1, _, by rw [HN.out]; omega, by go_num, rfl⟩
      case measure => simp [intOf]; omega
    · go_wp2
      go_ret
      exact closeB rfl
end Go.Proofs.Ytdkcdcbbpebgmaa
