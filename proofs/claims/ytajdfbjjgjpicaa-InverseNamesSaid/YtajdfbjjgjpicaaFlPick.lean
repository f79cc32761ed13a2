/- Remainders. -/
import Derived.Test.YtajdfbjjgjpicaaFlT
namespace Fl
theorem emod_of_tmod (i n : Int) (hn : 0 < n) : i % n = if i.tmod n < 0 then i.tmod n + n else i.tmod n := by
  have h := Int.tmod_add_mul_tdiv i n
  have a1 := Int.tmod_lt_of_pos i hn
  have a2 := Int.tmod_lt_of_pos (-i) hn
  rw [Int.neg_tmod] at a2
  have e : i % n = (i.tmod n) % n := by
    conv => lhs; rw [← h]
    rw [Int.add_mul_emod_self_left]
  rw [e]
  split
  · rename_i hneg
    have : (i.tmod n) % n = (i.tmod n + n) % n := by rw [Int.add_emod_right]
    rw [this, Int.emod_eq_of_lt (by omega) (by omega)]
  · exact Int.emod_eq_of_lt (by omega) a1
end Fl
