/- The neighbours of a narrow real: the program's and the reference's. -/
import Derived.Test.YtmbjaadhkhhaeaaNar
namespace Go.Proofs.Ytmbjaadhkhhaeaa
open Go.RowKit Fl Ieee
set_option maxRecDepth 20000
attribute [local go_sem] x_f32frombits
attribute [local go_sem] x_f32bits
attribute [local go_sem] Fl.order_self Fl.order_self' Fl.order_eq Fl.order_ne Fl.order_lt Fl.order_gt Fl.fle_fold Fl.fge_fold

/-- The neighbour of a narrow real. -/
def nxt (x : Nat) (up : Bool) : Nat :=
  if isNaN single x then x
  else if rung single x = 0 then (if up then 1 else 2147483649)
  else if (!sgn single x) == up then (if isInf single x then x else x + 1)
  else x - 1

theorem single_word {x : Nat} (hx : x < 4294967296) : x = if sgn single x then 2147483648 + rung single x else rung single x := by
  have h := word_split (f := single) hx
  have e : single.word (sgn single x) (rung single x) = if sgn single x then 2147483648 + rung single x else rung single x := by
    unfold Format.word; rw [sw32]
  rw [← e]; exact h
theorem inf_single : single.infRung = 2139095040 := by decide
theorem isInf_of_wide {x r : Nat} (h : IsWide x r) : isInf double r = isInf single x := by
  have h1 := isInf_fwide (cn .f32 x)
  have c1 : isInf single (cn .f32 x) = isInf single x := by
    by_cases hn : isNaN single x = true
    · have h2 := cn_of_nan (k := .f32) hn
      rw [h2]
      have : isInf single x = false := by
        simp only [isNaN, isInf, decide_eq_true_eq, decide_eq_false_iff_not] at *; omega
      rw [this]; decide
    · rw [cn_of_not (k := .f32) (Bool.eq_false_iff.2 hn)]
  have c2 : isInf double (cn .f64 r) = isInf double r := by
    by_cases hn : isNaN double r = true
    · have h2 := cn_of_nan (k := .f64) hn
      rw [h2]
      have : isInf double r = false := by
        simp only [isNaN, isInf, decide_eq_true_eq, decide_eq_false_iff_not] at *; omega
      rw [this]; decide
    · rw [cn_of_not (k := .f64) (Bool.eq_false_iff.2 hn)]
  rw [← c2, h.1, h1, c1]
def RetF (k : FloatKind) (v : Nat) (w : World) (e : Ending) (w' : World) : Prop := ∃ n, e = .returned (.float k v) ∧ w' = w.drewN n
theorem retF {k : FloatKind} {v a : Nat} {w : World} (n : Nat) (h : a = v) : RetF k v w (.returned (.float k a)) (w.drewN n) := ⟨n, by rw [h], rfl⟩
theorem retF0 {k : FloatKind} {v a : Nat} {w : World} (h : a = v) : RetF k v w (.returned (.float k a)) w := ⟨0, by rw [h], rfl⟩
set_option maxHeartbeats 400000 in
theorem Next_c (x : Nat) (up : Bool) (hx : x < 4294967296) (w : World) :
    Calls Try.prog 26 #[.float .f32 x, .bool up] w (RetF .f32 (nxt x up) w) := by
  have hw := single_word hx
  have hi := inf_single
  have hr := rung_lt single x
  rw [sw32] at hr
  by_cases hn : isNaN single x = true
  · have e : nxt x up = x := by simp [nxt, hn]
    have hn' : isNaN FloatKind.f32.format x = true := hn
    clear hn hw hi hr
    go_enter Try.func26, Try.ntmps26
    go_wp2
    go_ret; exact retF0 e.symm
  · have hn0 : isNaN single x = false := Bool.eq_false_iff.2 hn
    have hn' : isNaN FloatKind.f32.format x = false := hn0
    have hle : rung single x ≤ 2139095040 := by
      have := hn0; simp only [isNaN, decide_eq_false_iff_not] at this; omega
    by_cases hz : rung single x = 0
    · have f1 : feq .f32 x 0 = true := by
        rw [feq_zero, hn']; simp; exact hz
      have e : nxt x up = if up then 1 else 2147483649 := by simp [nxt, hn, hz]
      clear hn hw hi hr hle hz hn0
      cases up
      · have E : Hid _ := e
        clear e
        go_enter Try.func26, Try.ntmps26
        go_wp2
        go_ret; exact retF0 (by rw [E.out]; rfl)
      · have E : Hid _ := e
        clear e
        go_enter Try.func26, Try.ntmps26
        go_wp2
        go_ret; exact retF0 (by rw [E.out]; rfl)
    · have f1 : feq .f32 x 0 = false := by
        rw [feq_zero, hn']; simp; exact hz
      have f2 : flt .f32 0 x = !sgn single x := by
        rw [flt_zero_l, hn', decide_eq_true (show rung FloatKind.f32.format x ≠ 0 from hz)]
        show (!false && !sgn single x && true) = !sgn single x
        simp
      by_cases hs : ((!sgn single x) == up) = true
      · have f3 : (flt .f32 0 x == up) = true := by rw [f2]; exact hs
        by_cases hinf : isInf single x = true
        · have e : nxt x up = x := by simp only [nxt, hn0, hz, hs, hinf]; simp
          have E : Hid (nxt x up = x) := e
          clear e f2 hs hw hi hr hle hz hn0 hn
          go_enter Try.func26, Try.ntmps26
          go_wp2_with fail
          refine upon_widen (by kernel_rfl) Try.underlying49 _ ?_
          intro r n hwide
          have h2 : isInf double r = true := (isInf_of_wide hwide).trans hinf
          have h3 : r < 18446744073709551616 := hwide.2
          go_wp2_with (go_at_call 61; refine (mIsInf_c _ h3 _).mono ?_; rintro e w' ⟨rfl, rfl⟩)
          go_ret; exact retF _ E.out.symm
        · have hinf0 : isInf single x = false := Bool.eq_false_iff.2 hinf
          have e : nxt x up = x + 1 := by simp only [nxt, hn0, hz, hs, hinf0]; simp
          have E : Hid (nxt x up = x + 1) := e
          have hlt : x + 1 < 4294967296 := by
            have h5 : rung single x ≠ 2139095040 := by
              intro h; rw [← hi] at h; exact hinf (by simp [isInf, h])
            rw [hw]; split <;> omega
          clear e f2 hs hw hi hr hle hz hn0 hn
          go_enter Try.func26, Try.ntmps26
          go_wp2_with fail
          refine upon_widen (by kernel_rfl) Try.underlying49 _ ?_
          intro r n hwide
          have h2 : isInf double r = false := (isInf_of_wide hwide).trans hinf0
          have h3 : r < 18446744073709551616 := hwide.2
          go_wp2_with (go_at_call 61; refine (mIsInf_c _ h3 _).mono ?_; rintro e w' ⟨rfl, rfl⟩)
          go_ret; exact retF _ (by rw [E.out])
      · have hs0 : ((!sgn single x) == up) = false := Bool.eq_false_iff.2 hs
        have f3 : (flt .f32 0 x == up) = false := by rw [f2]; exact hs0
        have e : nxt x up = x - 1 := by simp only [nxt, hn0, hz, hs0]; simp
        have E : Hid (nxt x up = x - 1) := e
        have hlt : 1 ≤ x := by
          rw [hw]; split <;> omega
        clear e f2 hs hw hi hr hle hz hn0 hn hs0
        go_enter Try.func26, Try.ntmps26
        go_wp2
        go_ret; exact retF0 (by rw [E.out])
theorem place_c (x : Nat) (hx : x < 4294967296) (w : World) :
    Calls Try.prog 62 #[.float .f32 x] w fun e w' => e = .returned (.int .i64 (key single x)) ∧ w = w' := by
  have hw := single_word hx
  have hr := rung_lt single x
  rw [sw32] at hr
  by_cases hs : sgn single x = true
  · have e : key single x = -((x : Int) - 2147483648) := by
      rw [if_pos hs] at hw
      unfold key; rw [if_pos hs]; omega
    have h1 : (2147483648 : Int) ≤ (x : Int) := by rw [if_pos hs] at hw; omega
    have E : Hid (key single x = -((x : Int) - 2147483648)) := e
    clear e hw hr
    go_enter Try.func62, Try.ntmps62
    go_wp2
    go_ret; exact ⟨ret_int (by rw [E.out]), rfl⟩
  · have e : key single x = (x : Int) := by
      rw [if_neg hs] at hw
      unfold key; rw [if_neg hs]; omega
    have h1 : decide ((2147483648 : Int) ≤ (x : Int)) = false := by rw [if_neg hs] at hw; simp; omega
    have E : Hid (key single x = (x : Int)) := e
    clear e hw hr
    go_enter Try.func62, Try.ntmps62
    go_wp2
    go_ret; exact ⟨ret_int (by rw [E.out]), rfl⟩
theorem nxt_down {x : Nat} (hx : x < 4294967296) (hn : isNaN single x = false) {K : Int} (hK : K = key single x) :
    nxt x false = if K = -2139095040 then 4286578688 else if K - 1 < 0 then (2147483648 - (K - 1)).toNat else (K - 1).toNat := by
  have hw := single_word hx
  have hi := inf_single
  have hle : rung single x ≤ 2139095040 := by
    have := hn; simp only [isNaN, decide_eq_false_iff_not] at this; omega
  unfold nxt isInf
  rw [hn, hi]
  unfold key at hK
  cases hs : sgn single x
  · rw [hs] at hK hw
    simp only [Bool.false_eq_true, if_false] at hK hw
    simp only [Bool.false_eq_true, if_false, Bool.not_false, decide_eq_true_eq]
    by_cases h0 : rung single x = 0
    · rw [if_pos h0]; split <;> (try split) <;> omega
    · rw [if_neg h0, if_neg (by decide)]; split <;> (try split) <;> omega
  · rw [hs] at hK hw
    simp only [if_true] at hK hw
    simp only [Bool.false_eq_true, if_false, Bool.not_true, decide_eq_true_eq]
    by_cases h0 : rung single x = 0
    · rw [if_pos h0]; split <;> (try split) <;> omega
    · rw [if_neg h0, if_pos (by decide)]; split <;> (try split) <;> (try split) <;> omega
theorem nxt_up {x : Nat} (hx : x < 4294967296) (hn : isNaN single x = false) {K : Int} (hK : K = key single x) :
    nxt x true = if K = 2139095040 then 2139095040 else if K + 1 = 0 then 2147483648 else if K + 1 < 0 then (2147483648 - (K + 1)).toNat else (K + 1).toNat := by
  have hw := single_word hx
  have hi := inf_single
  have hle : rung single x ≤ 2139095040 := by
    have := hn; simp only [isNaN, decide_eq_false_iff_not] at this; omega
  unfold nxt isInf
  rw [hn, hi]
  unfold key at hK
  cases hs : sgn single x
  · rw [hs] at hK hw
    simp only [Bool.false_eq_true, if_false] at hK hw
    simp only [Bool.false_eq_true, if_false, if_true, Bool.not_false, decide_eq_true_eq]
    by_cases h0 : rung single x = 0
    · rw [if_pos h0]; split <;> (try split) <;> (try split) <;> omega
    · rw [if_neg h0, if_pos (by decide)]; split <;> (try split) <;> (try split) <;> (try split) <;> omega
  · rw [hs] at hK hw
    simp only [if_true] at hK hw
    simp only [Bool.false_eq_true, if_false, if_true, Bool.not_true, decide_eq_true_eq]
    by_cases h0 : rung single x = 0
    · rw [if_pos h0]; split <;> (try split) <;> (try split) <;> omega
    · rw [if_neg h0, if_neg (by decide)]; split <;> (try split) <;> (try split) <;> omega
theorem RNext_c (x : Nat) (up : Bool) (hx : x < 4294967296) (w : World) :
    Calls Try.prog 27 #[.float .f32 x, .bool up] w fun e w' => e = .returned (.float .f32 (nxt x up)) ∧ w = w' := by
  have hw := single_word hx
  have hi := inf_single
  have hr := rung_lt single x
  rw [sw32] at hr
  by_cases hn : isNaN single x = true
  · have e : nxt x up = x := by simp [nxt, hn]
    have hn' : isNaN FloatKind.f32.format x = true := hn
    clear hn hw hi hr
    go_enter Try.func27, Try.ntmps27
    go_wp2
    go_ret; exact ⟨ret_float e.symm, rfl⟩
  · have hn0 : isNaN single x = false := Bool.eq_false_iff.2 hn
    have hn' : isNaN FloatKind.f32.format x = false := hn0
    have hle : rung single x ≤ 2139095040 := by
      have := hn0; simp only [isNaN, decide_eq_false_iff_not] at this; omega
    obtain ⟨K, hK⟩ : ∃ K, K = key single x := ⟨_, rfl⟩
    have k1 : -2139095040 ≤ K := by rw [hK]; unfold key; split <;> omega
    have k2 : K ≤ 2139095040 := by rw [hK]; unfold key; split <;> omega
    have HK : Hid (K = key single x) := hK
    have hc : ∀ W : World, Calls Try.prog 62 #[.float .f32 x] W fun e w' => e = .returned (.int .i64 K) ∧ W = w' := by
      intro W; rw [hK]; exact place_c x hx W
    have HC := hc
    clear hK hn
    have nd : Hid _ := nxt_down hx hn0 HK.out
    have nu : Hid _ := nxt_up hx hn0 HK.out
    clear HC hi hle
    clear hw hr
    cases up
    · go_enter Try.func27, Try.ntmps27
      go_wp2_with (go_at_call 62; refine (hc _).mono ?_; rintro e w' ⟨rfl, rfl⟩)
      all_goals
        go_ret
        refine ⟨ret_float ?_, rfl⟩
        rw [nd.out]
        split <;> (try split) <;> omega
    · go_enter Try.func27, Try.ntmps27
      go_wp2_with (go_at_call 62; refine (hc _).mono ?_; rintro e w' ⟨rfl, rfl⟩)
      all_goals
        go_ret
        refine ⟨ret_float ?_, rfl⟩
        rw [nu.out]
        simp only [beq_iff_eq, beq_eq_false_iff_ne] at *
        split <;> (try split) <;> (try split) <;> omega
end Go.Proofs.Ytmbjaadhkhhaeaa
