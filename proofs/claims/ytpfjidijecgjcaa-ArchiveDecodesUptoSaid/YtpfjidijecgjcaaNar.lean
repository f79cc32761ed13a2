/- Contracts of layer 3's functions of bits. -/
import Derived.Test.YtpfjidijecgjcaaExt
namespace Go.Proofs.Ytpfjidijecgjcaa
open Go.RowKit Fl Ieee
set_option maxRecDepth 20000
attribute [local go_sem] x_f32frombits
attribute [local go_sem] x_f32bits
attribute [local go_sem] x_f64frombits
attribute [local go_sem] x_f64bits
attribute [local go_sem] Fl.order_self Fl.order_self' Fl.order_eq Fl.order_ne Fl.order_lt Fl.order_gt Fl.fle_fold Fl.fge_fold Fl.u64_clear Fl.u64_sign Fl.u64_flip Fl.u64_or_sign Fl.u32_clear Fl.negFloat_flip

/-- The bits that are told of a narrow real. -/
def nb (x : Nat) : Nat := if isNaN single x then 2143289344 else x
theorem nb_lt {x : Nat} (h : x < 4294967296) : nb x < 4294967296 := by unfold nb; split <;> omega
theorem nb_nan {x : Nat} (h : isNaN single x = true) : nb x = 2143289344 := by simp [nb, h]
theorem nb_not {x : Nat} (h : isNaN single x = false) : nb x = x := by simp [nb, h]
theorem nbits_c (x : Nat) (hx : x < 4294967296) (w : World) :
    Calls Try.prog 78 #[.float .f32 x] w fun e w' => e = .returned (.int .u64 (nb x)) ∧ w = w' := by
  go_enter Try.func78, Try.ntmps78
  go_wp2
  · go_ret; exact ⟨ret_int (by rw [nb_nan (by assumption)]; rfl), rfl⟩
  · go_ret; exact ⟨ret_int (by rw [nb_not (by assumption)]), rfl⟩
theorem u64_or_low (a b : Nat) (ha : a < 4294967296) (hb : b < 4294967296) : bits .or .u64 ((a : Int) * 4294967296) (b : Int) = ((a * 4294967296 + b : Nat) : Int) := by
  have h := u64_or_nat (a * 4294967296) b (by omega) (by omega)
  have e : a * 4294967296 ||| b = a * 4294967296 + b := by
    have := Nat.two_pow_add_eq_or_of_lt (i := 32) hb a
    rw [Nat.mul_comm] at this; exact this.symm
  rw [e] at h; rw [← h]; congr 1
theorem NBits_c (a b : Nat) (ha : a < 4294967296) (hb : b < 4294967296) (w : World) :
    Calls Try.prog 49 #[.complex .f32 a b] w fun e w' => e = .returned (.int .u64 (nb a * 4294967296 + nb b : Nat)) ∧ w = w' := by
  have h1 := nb_lt ha
  have h2 := nb_lt hb
  go_enter Try.func49, Try.ntmps49
  go_wp2_with (go_at_call 78; refine (nbits_c _ (by assumption) _).mono ?_; rintro e w' ⟨rfl, rfl⟩)
  go_ret
  refine ⟨ret_int ?_, rfl⟩
  rw [← u64_or_low _ _ h1 h2]
theorem NFromBits_c (u : Nat) (hu : u < 18446744073709551616) (w : World) :
    Calls Try.prog 72 #[.int .u64 u] w fun e w' => e = .returned (.complex .f32 (u / 4294967296) (u % 4294967296)) ∧ w = w' := by
  go_enter Try.func72, Try.ntmps72
  go_wp2
  go_ret; exact ⟨ret_complex (by omega) (by omega), rfl⟩
end Go.Proofs.Ytpfjidijecgjcaa
