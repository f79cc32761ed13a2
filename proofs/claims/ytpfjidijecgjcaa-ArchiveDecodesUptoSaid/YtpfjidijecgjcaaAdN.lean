/- Layer 31: a narrow number that is made wide is narrowed to itself. -/
import Derived.Test.YtpfjidijecgjcaaNsP
namespace Fl
open Ieee Go
set_option maxRecDepth 20000
theorem narrow_bits31 {m : Nat} (hm : fin double m) (hr : fin single (fnarrow m)) : floatToFloatBits .f64 m .f32 = some (fnarrow m) := by
  obtain ⟨k, e, hr', -, -⟩ := read_fin hm
  have hn : isNaN double m = false := by unfold fin at hm; unfold isNaN; simp; omega
  have e1 : fnarrow m = single.nearest (sgn double m) k e := by
    unfold fnarrow
    rw [hn, hr', if_neg Bool.false_ne_true]
    exact write_num single _ _ _
  rw [e1] at hr ⊢
  have hr2 : FloatKind.decode .f64 m = .number (sgn double m) k e := hr'
  have hni : (FloatKind.decode .f32 (FloatKind.encode .f32 (.number (sgn double m) k e))).isInfinity = false := by
    obtain ⟨m', e', h', -⟩ := read_fin hr
    show (single.read (single.nearest (sgn double m) k e)).isInfinity = false
    rw [h']; rfl
  unfold floatToFloatBits
  rw [if_neg (by decide), hr2]
  simp only [hni]
  rfl
/-- The middle of a number and the next one. -/
theorem fnarrow_fwide {x : Nat} (hx : x < 4294967296) (h : fin single x) : fnarrow (fwide x) = x := by
  obtain ⟨-, h2, h3, h4, -⟩ := fwide_fin h
  obtain ⟨E, hE⟩ : ∃ E, E = 925 := ⟨_, rfl⟩
  obtain ⟨r, hr, hb⟩ := fnarrow_fin hE h2
  rw [h3, h4, ← hE] at *
  have e : r = rung single x := Rne.eq_of_exact (Nat.two_pow_pos E) hr rfl
  have hw : x < 2 ^ single.width := hx
  rw [hb, e, Nat.min_eq_left (Nat.le_of_lt h)]
  exact (word_split hw).symm
theorem narrow_wide {x : Nat} (hx : x < 4294967296) (h : fin single x) : floatToFloatBits .f64 (fwide x) .f32 = some x := by
  have e := fnarrow_fwide hx h
  have hn := narrow_bits31 (fwide_fin h).2.1 (by rw [e]; exact h)
  rw [e] at hn; exact hn
/-- A number by its bits. -/
def numW (u : Nat) : C := (fwide (u / 4294967296), fwide (u % 4294967296))
theorem numW_fin {u : Nat} (h : pFinite (numW u) = true) : fin single (u / 4294967296) ∧ fin single (u % 4294967296) := by
  unfold pFinite at h
  rw [Bool.and_eq_true] at h
  have key : ∀ {x : Nat}, isFin double (fwide x) = true → fin single x := fun {x} hx => by
    have h1 : isNaN double (fwide x) = false := by
      have := of_decide_eq_true hx
      unfold isNaN; exact decide_eq_false (by omega)
    have h2 : isInf double (fwide x) = false := by
      have := of_decide_eq_true hx
      unfold isInf; exact decide_eq_false (by omega)
    rw [isNaN_fwide] at h1
    rw [isInf_fwide] at h2
    have g1 := of_decide_eq_false h1
    have g2 := of_decide_eq_false h2
    unfold fin
    omega
  exact ⟨key h.1, key h.2⟩
end Fl
