/- Layer 1: kinds, places, neighbours of a real: the program's and the reference's. -/
import Derived.Test.YtbajeonhiaaclaaParts2
namespace Go.Proofs.Ytbajeonhiaaclaa
open Go.RowKit Fl Ieee
set_option maxRecDepth 20000
attribute [local go_sem] x_f64frombits
attribute [local go_sem] x_f64bits
attribute [local go_sem] Fl.order_self Fl.order_self' Fl.order_eq Fl.order_ne Fl.order_lt Fl.order_gt Fl.fle_fold Fl.fge_fold Fl.u64_clear Fl.u64_sign Fl.u64_flip Fl.u64_or_sign Fl.u32_clear Fl.negFloat_flip

theorem ret_ib {a c : Int} {b d : Bool} (h : a = c) (h' : b = d) : Ending.returned (.tuple #[.int .i64 a, .bool b]) = .returned (.tuple #[.int .i64 c, .bool d]) := by rw [h, h']
theorem ret_fb {a c : Nat} {b d : Bool} (h : a = c) (h' : b = d) : Ending.returned (.tuple #[.float .f64 a, .bool b]) = .returned (.tuple #[.float .f64 c, .bool d]) := by rw [h, h']
theorem u64_wrap (z : Int) : IntKind.u64.wrap z = z % 18446744073709551616 := by simp [IntKind.wrap, IntKind.bits, IntKind.signed]
theorem double_word {x : Nat} (hx : x < 18446744073709551616) : x = if sgn double x then 9223372036854775808 + rung double x else rung double x := by
  have h := word_split (f := double) hx
  have e : double.word (sgn double x) (rung double x) = if sgn double x then 9223372036854775808 + rung double x else rung double x := by
    unfold Format.word; rw [sw64]
  rw [← e]; exact h
theorem inf_double : double.infRung = 9218868437227405312 := by decide
/-- A real's kind. -/
def kind (x : Nat) : Nat :=
  if rung double x = 0 then 0 else if rung double x < 4503599627370496 then 1 else if rung double x < 9218868437227405312 then 2
  else if rung double x = 9218868437227405312 then 3 else 4
/-- A real's place. -/
def plc (x : Nat) : Int := if isNaN double x then 0 else key double x
def atOk (p : Int) : Bool := decide (-9218868437227405312 ≤ p) && decide (p ≤ 9218868437227405312)
def atV (p : Int) : Nat := if atOk p then (if p < 0 then 9223372036854775808 + (-p).toNat else p.toNat) else 0
/-- The real beside one. -/
def nx (x : Nat) (up : Bool) : Nat :=
  if isNaN double x then x
  else if up then (if key double x = 9218868437227405312 then x else atV (key double x + 1))
  else (if key double x = -9218868437227405312 then x else atV (key double x - 1))
theorem rung_mod (x : Nat) : rung double x = x % 9223372036854775808 := by unfold rung; rw [sw64]
theorem key_bounds {x : Nat} (hn : isNaN double x = false) : -9218868437227405312 ≤ key double x ∧ key double x ≤ 9218868437227405312 := by
  simp only [isNaN, decide_eq_false_iff_not, inf_double] at hn
  unfold key; split <;> omega
theorem atV_lt (p : Int) : atV p < 18446744073709551616 := by
  unfold atV atOk; split
  · rename_i h; simp at h; split <;> omega
  · decide
theorem nx_lt {x : Nat} (hx : x < 18446744073709551616) (up : Bool) : nx x up < 18446744073709551616 := by
  unfold nx; split
  · exact hx
  · split <;> split <;> first | exact hx | exact atV_lt _

theorem Same1_c (a b : Nat) (w : World) :
    Calls Try.prog 27 #[.float .f64 a, .float .f64 b] w fun e w' => e = .returned (.bool (decide (cn .f64 a = cn .f64 b))) ∧ w = w' := by
  go_enter Try.func27, Try.ntmps27
  go_wp2
  all_goals (go_ret; refine same_close ?_; simp_all)
  · intro h
    obtain rfl : a = b := by omega
    assumption
  · rintro h
    obtain rfl : a = b := by omega
    simp_all
theorem RSame1_c (a b : Nat) (w : World) :
    Calls Try.prog 24 #[.float .f64 a, .float .f64 b] w fun e w' => e = .returned (.bool (decide (cn .f64 a = cn .f64 b))) ∧ w = w' := by
  go_enter Try.func24, Try.ntmps24
  go_wp2
  all_goals (go_ret; refine same_close ?_; simp_all)
  · intro h
    obtain rfl : a = b := by omega
    assumption
  · rintro h
    obtain rfl : a = b := by omega
    simp_all
theorem u64_and_2047 (n : Nat) (hn : n < 18446744073709551616) : bits .and .u64 ((n : Int) / 4503599627370496) 2047 = ((n % 9223372036854775808 / 4503599627370496 : Nat) : Int) := by
  have h := u64_and_nat (n / 4503599627370496) 2047 (by omega) (by omega)
  have e : n / 4503599627370496 &&& 2047 = n / 4503599627370496 % 2048 := Nat.and_two_pow_sub_one_eq_mod (n / 4503599627370496) 11
  rw [e] at h
  have h2 : bits .and .u64 ((n : Int) / 4503599627370496) 2047 = ((n / 4503599627370496 % 2048 : Nat) : Int) := by rw [← h]; congr 1
  have e3 : n % 9223372036854775808 / 4503599627370496 = n / 4503599627370496 % 2048 := Nat.mod_mul_right_div_self n 4503599627370496 2048
  rw [h2, e3]
set_option maxRecDepth 100000 in
theorem RKind_c (x : Nat) (hx : x < 18446744073709551616) (w : World) :
    Calls Try.prog 26 #[.float .f64 x] w fun e w' => e = .returned (.int .i64 (kind x : Nat)) ∧ w = w' := by
  have e : kind x = if x % 9223372036854775808 = 0 then 0 else if x % 9223372036854775808 < 4503599627370496 then 1 else if x % 9223372036854775808 < 9218868437227405312 then 2
    else if x % 9223372036854775808 = 9218868437227405312 then 3 else 4 := by unfold kind; rw [rung_mod]
  have E : Hid _ := e
  clear e
  obtain ⟨u, hu⟩ : ∃ u, x % 9223372036854775808 = u := ⟨_, rfl⟩
  have hi : (x : Int) % 9223372036854775808 = (u : Int) := by omega
  have e2 := E.out
  rw [hu] at e2
  have E2 : Hid _ := e2
  clear E e2 hu
  by_cases h1 : u = 0
  · subst h1
    go_enter Try.func26, Try.ntmps26
    go_wp2
    go_ret; exact ⟨ret_int (by rw [E2.out]; rfl), rfl⟩
  · by_cases h2 : u < 4503599627370496
    · have E3 : Hid (kind x = 1) := by have := E2.out; rw [if_neg h1, if_pos h2] at this; exact this
      have b1 : ((u : Int) == 0) = false := beq_eq_false_iff_ne.2 (by omega)
      have b2 : (u : Int) < 4503599627370496 := by omega
      clear h1 h2 E2
      go_enter Try.func26, Try.ntmps26
      go_wp2
      go_ret; exact ⟨ret_int (by rw [E3.out]; rfl), rfl⟩
    · by_cases h3 : u < 9218868437227405312
      · have E3 : Hid (kind x = 2) := by have := E2.out; rw [if_neg h1, if_neg h2, if_pos h3] at this; exact this
        have b1 : ((u : Int) == 0) = false := beq_eq_false_iff_ne.2 (by omega)
        have b2 : decide ((u : Int) < 4503599627370496) = false := by simp; omega
        have b3 : (u : Int) < 9218868437227405312 := by omega
        clear h1 h2 h3 E2
        go_enter Try.func26, Try.ntmps26
        go_wp2
        go_ret; exact ⟨ret_int (by rw [E3.out]; rfl), rfl⟩
      · by_cases h4 : u = 9218868437227405312
        · subst h4
          go_enter Try.func26, Try.ntmps26
          go_wp2
          go_ret; exact ⟨ret_int (by rw [E2.out]; rfl), rfl⟩
        · have E3 : Hid (kind x = 4) := by have := E2.out; rw [if_neg h1, if_neg h2, if_neg h3, if_neg h4] at this; exact this
          have b1 : ((u : Int) == 0) = false := beq_eq_false_iff_ne.2 (by omega)
          have b2 : decide ((u : Int) < 4503599627370496) = false := by simp; omega
          have b3 : decide ((u : Int) < 9218868437227405312) = false := by simp; omega
          have b4 : ((u : Int) == 9218868437227405312) = false := beq_eq_false_iff_ne.2 (by omega)
          clear h1 h2 h3 h4 E2
          go_enter Try.func26, Try.ntmps26
          go_wp2
          go_ret; exact ⟨ret_int (by rw [E3.out]; rfl), rfl⟩
theorem Kind_c (x : Nat) (hx : x < 18446744073709551616) (w : World) :
    Calls Try.prog 25 #[.float .f64 x] w fun e w' => e = .returned (.int .i64 (kind x : Nat)) ∧ w = w' := by
  have e : kind x = if x % 9223372036854775808 = 0 then 0 else if x % 9223372036854775808 < 4503599627370496 then 1 else if x % 9223372036854775808 < 9218868437227405312 then 2
    else if x % 9223372036854775808 = 9218868437227405312 then 3 else 4 := by unfold kind; rw [rung_mod]
  have E : Hid _ := e
  clear e
  have ha := u64_and_2047 x hx
  go_enter Try.func25, Try.ntmps25
  go_wp2
  all_goals (simp only [u64_wrap, beq_iff_eq, beq_eq_false_iff_ne, ne_eq] at *; go_ret; exact ⟨ret_int (by rw [E.out]; split <;> (try split) <;> (try split) <;> (try split) <;> omega), rfl⟩)
theorem RPlace_c (x : Nat) (hx : x < 18446744073709551616) (w : World) :
    Calls Try.prog 21 #[.float .f64 x] w fun e w' => e = .returned (.tuple #[.int .i64 (plc x), .bool (!isNaN double x)]) ∧ w = w' := by
  by_cases hn : isNaN double x = true
  · have hn' : isNaN FloatKind.f64.format x = true := hn
    have e : plc x = 0 := by simp [plc, hn]
    have E : Hid _ := e
    clear e
    go_enter Try.func21, Try.ntmps21
    go_wp2
    go_ret2; exact ⟨ret_ib (by rw [E.out]) (by rw [hn]; rfl), rfl⟩
  · have hn0 : isNaN double x = false := Bool.eq_false_iff.2 hn
    have hn' : isNaN FloatKind.f64.format x = false := hn0
    have f := flt_zero_r .f64 x
    rw [hn'] at f
    change flt .f64 x 0 = (!false && sgn double x && decide (rung double x ≠ 0)) at f
    have hw := double_word hx
    have hr := rung_mod x
    have hlt := rung_lt64 x
    have e : plc x = key double x := by simp [plc, hn0]
    by_cases hb : flt .f64 x 0 = true
    · have e2 : plc x = -((x % 9223372036854775808 : Nat) : Int) := by
        rw [hb] at f
        have h1 : sgn double x = true := by
          by_cases h : sgn double x = true
          · exact h
          · rw [Bool.eq_false_iff.2 h] at f; simp at f
        rw [e, ← hr]; unfold key; rw [if_pos h1]
      have E : Hid _ := e2
      clear e e2 f hw hr hn hn0
      go_enter Try.func21, Try.ntmps21
      go_wp2
      go_ret2; exact ⟨ret_ib (by rw [E.out]; omega) (show true = !(isNaN FloatKind.f64.format x) by rw [hn']; rfl), rfl⟩
    · have e2 : plc x = ((x % 9223372036854775808 : Nat) : Int) := by
        have hb0 : flt .f64 x 0 = false := Bool.eq_false_iff.2 hb
        rw [hb0] at f
        rw [e, ← hr]; unfold key
        split
        · rename_i h1
          rw [h1] at f
          have : rung double x = 0 := by simpa using f
          omega
        · rfl
      have hb0 : flt .f64 x 0 = false := Bool.eq_false_iff.2 hb
      have E : Hid _ := e2
      clear e e2 f hw hr hn hn0 hb
      go_enter Try.func21, Try.ntmps21
      go_wp2
      go_ret2; exact ⟨ret_ib (by rw [E.out]; omega) (show true = !(isNaN FloatKind.f64.format x) by rw [hn']; rfl), rfl⟩
theorem Place_c (x : Nat) (hx : x < 18446744073709551616) (w : World) :
    Calls Try.prog 20 #[.float .f64 x] w fun e w' => e = .returned (.tuple #[.int .i64 (plc x), .bool (!isNaN double x)]) ∧ w = w' := by
  by_cases hn : isNaN double x = true
  · have hn' : isNaN FloatKind.f64.format x = true := hn
    have e : plc x = 0 := by simp [plc, hn]
    have E : Hid _ := e
    clear e
    go_enter Try.func20, Try.ntmps20
    go_wp2
    go_ret2; exact ⟨ret_ib (by rw [E.out]) (by rw [hn]; rfl), rfl⟩
  · have hn0 : isNaN double x = false := Bool.eq_false_iff.2 hn
    have hn' : isNaN FloatKind.f64.format x = false := hn0
    have hw := double_word hx
    have hlt := rung_lt64 x
    have e : plc x = key double x := by simp [plc, hn0]
    by_cases hb : sgn double x = true
    · have e2 : plc x = -((rung double x : Nat) : Int) := by
        rw [e]; unfold key; rw [if_pos hb]
      have h1 : ((x : Int) / 9223372036854775808 == 1) = true := by rw [if_pos hb] at hw; simp; omega
      have E : Hid _ := e2
      clear e e2 hw hn hn0
      go_enter Try.func20, Try.ntmps20
      go_wp2
      all_goals (go_ret2; exact ⟨ret_ib (by rw [E.out]) (show true = !(isNaN FloatKind.f64.format x) by rw [hn']; rfl), rfl⟩)
    · have e2 : plc x = ((rung double x : Nat) : Int) := by
        rw [e]; unfold key; rw [if_neg hb]
      have h1 : ((x : Int) / 9223372036854775808 == 1) = false := by rw [if_neg hb] at hw; simp; omega
      have E : Hid _ := e2
      clear e e2 hw hn hn0
      go_enter Try.func20, Try.ntmps20
      go_wp2
      all_goals (go_ret2; exact ⟨ret_ib (by rw [E.out]) (show true = !(isNaN FloatKind.f64.format x) by rw [hn']; rfl), rfl⟩)
theorem At_c (p : Int) (hp : -9223372036854775808 ≤ p ∧ p ≤ 9223372036854775807) (w : World) :
    Calls Try.prog 22 #[.int .i64 p] w fun e w' => e = .returned (.tuple #[.float .f64 (atV p), .bool (atOk p)]) ∧ w = w' := by
  by_cases ho : atOk p = true
  · have h := ho
    simp only [atOk, Bool.and_eq_true, decide_eq_true_eq] at h
    have e : atV p = if p < 0 then 9223372036854775808 + (-p).toNat else p.toNat := by unfold atV; rw [if_pos ho]
    have E : Hid _ := e
    clear e
    have HO : Hid _ := ho
    clear ho
    by_cases hneg : p < 0
    · obtain ⟨m, hm⟩ : ∃ m : Nat, -p = (m : Int) := ⟨(-p).toNat, by omega⟩
      have hm2 : m < 9223372036854775808 := by omega
      have hb := u64_or_sign m true hm2
      have he : ((if true then 9223372036854775808 else 0 : Nat) : Int) = 9223372036854775808 := rfl
      rw [he] at hb
      have hw2 : (double.word true m : Nat) = 9223372036854775808 + m := by unfold Format.word; rw [sw64]; rfl
      rw [hw2] at hb
      go_enter Try.func22, Try.ntmps22
      go_wp2
      go_ret2
      refine ⟨ret_fb ?_ (by rw [HO.out]), rfl⟩
      have e3 := E.out
      rw [if_pos hneg] at e3
      rw [e3]; first | omega | (rw [hb]; omega)
    · go_enter Try.func22, Try.ntmps22
      go_wp2
      go_ret2
      refine ⟨ret_fb ?_ (by rw [HO.out]), rfl⟩
      have e3 := E.out
      rw [if_neg (by omega)] at e3
      rw [e3]
  · have h := ho
    simp only [atOk, Bool.and_eq_true, decide_eq_true_eq] at h
    have e : atV p = 0 := by unfold atV; rw [if_neg ho]
    have E : Hid _ := e
    clear e
    have HO : Hid (atOk p = false) := Bool.eq_false_iff.2 ho
    clear ho
    by_cases h2 : p < -9218868437227405312
    · clear h
      go_enter Try.func22, Try.ntmps22
      go_wp2
      all_goals (go_ret2; exact ⟨ret_fb (by rw [E.out]) (by rw [HO.out]), rfl⟩)
    · have h3 : p > 9218868437227405312 := by omega
      clear h
      go_enter Try.func22, Try.ntmps22
      go_wp2
      all_goals (go_ret2; exact ⟨ret_fb (by rw [E.out]) (by rw [HO.out]), rfl⟩)
theorem RAt_c (p : Int) (hp : -9223372036854775808 ≤ p ∧ p ≤ 9223372036854775807) (w : World) :
    Calls Try.prog 23 #[.int .i64 p] w fun e w' => e = .returned (.tuple #[.float .f64 (atV p), .bool (atOk p)]) ∧ w = w' := by
  by_cases ho : atOk p = true
  · have h := ho
    simp only [atOk, Bool.and_eq_true, decide_eq_true_eq] at h
    have e : atV p = if p < 0 then 9223372036854775808 + (-p).toNat else p.toNat := by unfold atV; rw [if_pos ho]
    have E : Hid _ := e
    clear e
    have HO : Hid _ := ho
    clear ho
    by_cases hneg : p < 0
    · have hm2 : (-p).toNat < 9223372036854775808 := by omega
      have hf : flip double (-p).toNat = 9223372036854775808 + (-p).toNat := by
        have h4 := flip_eq (f := double) (x := (-p).toNat) (by show (-p).toNat < 18446744073709551616; omega)
        rw [h4]
        have h5 : sgn double (-p).toNat = false := by
          unfold sgn; rw [sw64]; simp; omega
        have h6 : rung double (-p).toNat = (-p).toNat := by rw [rung_mod]; omega
        rw [h5, h6]; unfold Format.word; rw [sw64]; rfl
      have HF : Hid _ := hf
      clear hf
      go_enter Try.func23, Try.ntmps23
      go_wp2
      go_ret2
      refine ⟨ret_fb ?_ (by rw [HO.out]), rfl⟩
      have e3 := E.out
      rw [if_pos hneg] at e3
      rw [e3, HF.out]
    · go_enter Try.func23, Try.ntmps23
      go_wp2
      go_ret2
      refine ⟨ret_fb ?_ (by rw [HO.out]), rfl⟩
      have e3 := E.out
      rw [if_neg (by omega)] at e3
      rw [e3]
  · have h := ho
    simp only [atOk, Bool.and_eq_true, decide_eq_true_eq] at h
    have e : atV p = 0 := by unfold atV; rw [if_neg ho]
    have E : Hid _ := e
    clear e
    have HO : Hid (atOk p = false) := Bool.eq_false_iff.2 ho
    clear ho
    by_cases h2 : p < -9218868437227405312
    · clear h
      go_enter Try.func23, Try.ntmps23
      go_wp2
      all_goals (go_ret2; exact ⟨ret_fb (by rw [E.out]) (by rw [HO.out]), rfl⟩)
    · have h3 : p > 9218868437227405312 := by omega
      clear h
      go_enter Try.func23, Try.ntmps23
      go_wp2
      all_goals (go_ret2; exact ⟨ret_fb (by rw [E.out]) (by rw [HO.out]), rfl⟩)
end Go.Proofs.Ytbajeonhiaaclaa
