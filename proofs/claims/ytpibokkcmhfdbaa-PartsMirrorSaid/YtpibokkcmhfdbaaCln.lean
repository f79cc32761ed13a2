/- Layer 2's small call that looks for a NaN. -/
import Derived.Test.YtpibokkcmhfdbaaL02a
import Derived.Test.YtpibokkcmhfdbaaFlMc
namespace Go.Proofs.Ytpibokkcmhfdbaa
open Go.RowKit Fl Ieee
set_option maxRecDepth 20000
attribute [local go_sem] Fl.order_self Fl.order_self' Fl.order_eq Fl.order_ne Fl.order_lt Fl.order_gt Fl.fle_fold Fl.fge_fold
def cleanL (l : List C) : Bool := l.all fun p => !isNaN double p.1 && !isNaN double p.2
def Holds (w : World) (A : Addr) (l : List C) : Prop := ∀ k p, l[k]? = some p → w.cell? (A.add k) = some (.complex .f64 p.1 p.2)
theorem cleanL_take {l : List C} {k : Nat} {p : C} (h : l[k]? = some p) : cleanL (l.take (k + 1)) = (cleanL (l.take k) && (!isNaN double p.1 && !isNaN double p.2)) := by
  have hk : k < l.length := by
    rcases Nat.lt_or_ge k l.length with h1 | h1
    · exact h1
    · rw [List.getElem?_eq_none h1] at h; cases h
  have e : l[k] = p := by rw [List.getElem?_eq_getElem hk] at h; exact Option.some.inj h
  rw [List.take_succ_eq_append_getElem hk, e]
  simp [cleanL]
theorem cleanL_false {l : List C} {k : Nat} {p : C} (h : l[k]? = some p) (hp : (!isNaN double p.1 && !isNaN double p.2) = false) : cleanL l = false := by
  have hk : k < l.length := by
    rcases Nat.lt_or_ge k l.length with h1 | h1
    · exact h1
    · rw [List.getElem?_eq_none h1] at h; cases h
  have e : l[k] = p := by rw [List.getElem?_eq_getElem hk] at h; exact Option.some.inj h
  unfold cleanL
  rw [List.all_eq_false]
  exact ⟨p, by rw [← e]; exact List.getElem_mem hk, by rw [hp]; simp⟩
theorem drewN_two (w : World) (m n : Nat) : (w.drewN m).drewN n = w.drewN (m + n) := by
  induction n with
  | zero => rfl
  | succ n ih =>
    have e : (w.drewN m).drewN (n + 1) = ((w.drewN m).drewN n).drew := rfl
    rw [e, ih]; rfl
theorem retB_two {b c : Bool} {m n : Nat} {w : World} (h : c = b) : RetB b w (.returned (.bool c)) ((w.drewN m).drewN n) := ⟨m + n, by rw [h], drewN_two w m n⟩
set_option maxHeartbeats 400000 in
theorem clean_c (A : Addr) (l : List C) (c : Nat) (w : World) (hl : l.length ≤ 4) (hc : Holds w A l) :
    Calls Try.prog 37 #[.slice (some A) l.length c] w (RetB (cleanL l) w) := by
  go_enter Try.func37, Try.ntmps37
  go_wp2
  go_loopw [3] (fun i wr => ∃ k m : Nat, k ≤ l.length ∧ i = .int .i64 k ∧ cleanL (l.take k) = true ∧ wr = w.drewN m) (fun i _ => l.length - (intOf i).toNat)
  case atStart => exact ⟨0, 0, Nat.zero_le _, rfl, rfl, rfl⟩
  case round =>
    obtain ⟨k, m, hk, rfl, hcl, rfl⟩ := hrel
    have HC : Hid (Holds w A l) := hc
    have HCL : Hid _ := hcl
    clear hc hcl
    by_cases hlt : k < l.length
    · obtain ⟨p, hp⟩ : ∃ p, l[k]? = some p := ⟨l[k], List.getElem?_eq_getElem hlt⟩
      have hcell := HC.out k p hp
      have HP : Hid _ := hp
      clear hp
      by_cases h1 : isNaN double p.1 = true
      · have h1' : isNaN FloatKind.f64.format p.1 = true := h1
        have E : Hid (cleanL l = false) := cleanL_false HP.out (by rw [h1]; rfl)
        clear h1
        go_wp2
        go_quiet (fail)
        go_wp2
        go_ret; refine retB_two ?_; exact E.out.symm
      · have h1f := Bool.eq_false_iff.2 h1
        have h1' : isNaN FloatKind.f64.format p.1 = false := h1f
        by_cases h2 : isNaN double p.2 = true
        · have h2' : isNaN FloatKind.f64.format p.2 = true := h2
          have E : Hid (cleanL l = false) := cleanL_false HP.out (by rw [h2]; simp)
          clear h1 h1f h2
          go_wp2
          go_quiet (fail)
          go_wp2
          go_ret; refine retB_two ?_; exact E.out.symm
        · have h2f := Bool.eq_false_iff.2 h2
          have h2' : isNaN FloatKind.f64.format p.2 = false := h2f
          have E : Hid (cleanL (l.take (k + 1)) = true) := by
            show cleanL (l.take (k + 1)) = true
            rw [cleanL_take HP.out, HCL.out, h1f, h2f]; rfl
          clear h1 h1f h2 h2f
          go_wp2
          go_quiet (fail)
          go_wp2
          go_roundw
          case rel => exact ⟨k + 1, _, by omega, by go_num, E.out, rfl⟩
          case measure => simp [intOf]; omega
    · go_wp2
      go_ret
      have e : l.take k = l := List.take_of_length_le (by omega)
      refine closeB ?_; have := HCL.out; rw [e] at this; exact this.symm
end Go.Proofs.Ytpibokkcmhfdbaa
