/- Layer 1: the neighbours of a real. -/
import Derived.Test.YtbajeonhiaaclaaR01
namespace Go.Proofs.Ytbajeonhiaaclaa
open Go.RowKit Fl Ieee
set_option maxRecDepth 20000
theorem Next1_c (x : Nat) (up : Bool) (hx : x < 18446744073709551616) (w : World) :
    Calls Try.prog 28 #[.float .f64 x, .bool up] w fun e w' => e = .returned (.float .f64 (nx x up)) ∧ w = w' := by
  by_cases hn : isNaN double x = true
  · have h1 : (!isNaN double x) = false := by rw [hn]; rfl
    have E : Hid (nx x up = x) := by show nx x up = x; simp [nx, hn]
    clear hn
    go_enter Try.func28, Try.ntmps28
    go_wp2_with (go_at_call 20; refine (Place_c _ hx _).mono ?_; rintro e w' ⟨rfl, rfl⟩)
    go_ret; exact ⟨ret_float (by rw [E.out]), rfl⟩
  · have hn0 : isNaN double x = false := Bool.eq_false_iff.2 hn
    have h1 : (!isNaN double x) = true := by rw [hn0]; rfl
    have hb := key_bounds hn0
    have e : plc x = key double x := by simp [plc, hn0]
    obtain ⟨p, hp⟩ : ∃ p, plc x = p := ⟨_, rfl⟩
    rw [hp] at e
    rw [← e] at hb
    cases up
    · by_cases ht : p = -9218868437227405312
      · have E : Hid (nx x false = x) := by show nx x false = x; simp only [nx, hn0, ← e, ht]; simp
        have b1 : (p == -9218868437227405312) = true := beq_iff_eq.2 ht
        have P : Hid _ := hp
        clear hn hn0 e ht hp
        go_enter Try.func28, Try.ntmps28
        go_wp2_with (go_at_call 20; refine (Place_c _ hx _).mono ?_; rw [P.out]; rintro e w' ⟨rfl, rfl⟩)
        go_ret; exact ⟨ret_float (by rw [E.out]), rfl⟩
      · have E : Hid (nx x false = atV (p - 1)) := by show nx x false = atV (p - 1); simp only [nx, hn0, ← e, ht]; simp
        have b1 : (p == -9218868437227405312) = false := beq_eq_false_iff_ne.2 ht
        have hq : -9223372036854775808 ≤ p - 1 ∧ p - 1 ≤ 9223372036854775807 := by omega
        have P : Hid _ := hp
        clear hn hn0 e ht hp
        go_enter Try.func28, Try.ntmps28
        go_wp2_with (first
          | (go_at_call 20; refine (Place_c _ hx _).mono ?_; rw [P.out]; rintro e w' ⟨rfl, rfl⟩)
          | (go_at_call 22; refine (At_c _ hq _).mono ?_; rintro e w' ⟨rfl, rfl⟩))
        go_ret; exact ⟨ret_float (by rw [E.out]), rfl⟩
    · by_cases ht : p = 9218868437227405312
      · have E : Hid (nx x true = x) := by show nx x true = x; simp only [nx, hn0, ← e, ht]; simp
        have b1 : (p == 9218868437227405312) = true := beq_iff_eq.2 ht
        have P : Hid _ := hp
        clear hn hn0 e ht hp
        go_enter Try.func28, Try.ntmps28
        go_wp2_with (go_at_call 20; refine (Place_c _ hx _).mono ?_; rw [P.out]; rintro e w' ⟨rfl, rfl⟩)
        go_ret; exact ⟨ret_float (by rw [E.out]), rfl⟩
      · have E : Hid (nx x true = atV (p + 1)) := by show nx x true = atV (p + 1); simp only [nx, hn0, ← e, ht]; simp
        have b1 : (p == 9218868437227405312) = false := beq_eq_false_iff_ne.2 ht
        have hq : -9223372036854775808 ≤ p + 1 ∧ p + 1 ≤ 9223372036854775807 := by omega
        have P : Hid _ := hp
        clear hn hn0 e ht hp
        go_enter Try.func28, Try.ntmps28
        go_wp2_with (first
          | (go_at_call 20; refine (Place_c _ hx _).mono ?_; rw [P.out]; rintro e w' ⟨rfl, rfl⟩)
          | (go_at_call 22; refine (At_c _ hq _).mono ?_; rintro e w' ⟨rfl, rfl⟩))
        go_ret; exact ⟨ret_float (by rw [E.out]), rfl⟩
theorem RNext1_c (x : Nat) (up : Bool) (hx : x < 18446744073709551616) (w : World) :
    Calls Try.prog 29 #[.float .f64 x, .bool up] w fun e w' => e = .returned (.float .f64 (nx x up)) ∧ w = w' := by
  by_cases hn : isNaN double x = true
  · have h1 : (!isNaN double x) = false := by rw [hn]; rfl
    have E : Hid (nx x up = x) := by show nx x up = x; simp [nx, hn]
    clear hn
    go_enter Try.func29, Try.ntmps29
    go_wp2_with (go_at_call 21; refine (RPlace_c _ hx _).mono ?_; rintro e w' ⟨rfl, rfl⟩)
    go_ret; exact ⟨ret_float (by rw [E.out]), rfl⟩
  · have hn0 : isNaN double x = false := Bool.eq_false_iff.2 hn
    have h1 : (!isNaN double x) = true := by rw [hn0]; rfl
    have hb := key_bounds hn0
    have e : plc x = key double x := by simp [plc, hn0]
    obtain ⟨p, hp⟩ : ∃ p, plc x = p := ⟨_, rfl⟩
    rw [hp] at e
    rw [← e] at hb
    cases up
    · by_cases ht : p = -9218868437227405312
      · have E : Hid (nx x false = x) := by show nx x false = x; simp only [nx, hn0, ← e, ht]; simp
        have b1 : (p == -9218868437227405312) = true := beq_iff_eq.2 ht
        have P : Hid _ := hp
        clear hn hn0 e ht hp
        go_enter Try.func29, Try.ntmps29
        go_wp2_with (go_at_call 21; refine (RPlace_c _ hx _).mono ?_; rw [P.out]; rintro e w' ⟨rfl, rfl⟩)
        go_ret; exact ⟨ret_float (by rw [E.out]), rfl⟩
      · have E : Hid (nx x false = atV (p - 1)) := by show nx x false = atV (p - 1); simp only [nx, hn0, ← e, ht]; simp
        have b1 : (p == -9218868437227405312) = false := beq_eq_false_iff_ne.2 ht
        have hq : -9223372036854775808 ≤ p - 1 ∧ p - 1 ≤ 9223372036854775807 := by omega
        have P : Hid _ := hp
        clear hn hn0 e ht hp
        go_enter Try.func29, Try.ntmps29
        go_wp2_with (first
          | (go_at_call 21; refine (RPlace_c _ hx _).mono ?_; rw [P.out]; rintro e w' ⟨rfl, rfl⟩)
          | (go_at_call 23; refine (RAt_c _ hq _).mono ?_; rintro e w' ⟨rfl, rfl⟩))
        go_ret; exact ⟨ret_float (by rw [E.out]), rfl⟩
    · by_cases ht : p = 9218868437227405312
      · have E : Hid (nx x true = x) := by show nx x true = x; simp only [nx, hn0, ← e, ht]; simp
        have b1 : (p == 9218868437227405312) = true := beq_iff_eq.2 ht
        have P : Hid _ := hp
        clear hn hn0 e ht hp
        go_enter Try.func29, Try.ntmps29
        go_wp2_with (go_at_call 21; refine (RPlace_c _ hx _).mono ?_; rw [P.out]; rintro e w' ⟨rfl, rfl⟩)
        go_ret; exact ⟨ret_float (by rw [E.out]), rfl⟩
      · have E : Hid (nx x true = atV (p + 1)) := by show nx x true = atV (p + 1); simp only [nx, hn0, ← e, ht]; simp
        have b1 : (p == 9218868437227405312) = false := beq_eq_false_iff_ne.2 ht
        have hq : -9223372036854775808 ≤ p + 1 ∧ p + 1 ≤ 9223372036854775807 := by omega
        have P : Hid _ := hp
        clear hn hn0 e ht hp
        go_enter Try.func29, Try.ntmps29
        go_wp2_with (first
          | (go_at_call 21; refine (RPlace_c _ hx _).mono ?_; rw [P.out]; rintro e w' ⟨rfl, rfl⟩)
          | (go_at_call 23; refine (RAt_c _ hq _).mono ?_; rintro e w' ⟨rfl, rfl⟩))
        go_ret; exact ⟨ret_float (by rw [E.out]), rfl⟩
end Go.Proofs.Ytbajeonhiaaclaa
