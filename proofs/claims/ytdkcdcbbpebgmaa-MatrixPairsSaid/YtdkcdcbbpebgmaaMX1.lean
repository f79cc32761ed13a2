/- Layer 7: a matrix's shape, its entries. -/
import Derived.Test.YtdkcdcbbpebgmaaMem
import Derived.Test.YtdkcdcbbpebgmaaRParts
import Derived.Test.YtdkcdcbbpebgmaaFr
namespace Go.Proofs.Ytdkcdcbbpebgmaa
open Go.RowKit Fl Ieee
set_option maxRecDepth 20000
attribute [local go_sem] Fl.order_self Fl.order_self' Fl.order_eq Fl.order_ne Fl.order_lt Fl.order_gt Fl.fle_fold Fl.fge_fold run_store_float run_store_complex
/-- A matrix as a value. -/
abbrev mval (r c : Int) (s : Value) : Value := .agg #[.int .i64 r, .int .i64 c, s]
/-- May it be? (n numbers) -/
def okM (r c : Int) (n : Nat) : Bool := decide (0 ≤ r) && decide (r ≤ 64) && decide (0 ≤ c) && decide (c ≤ 64) && decide ((n : Int) = r * c)
theorem okM_iff {r c : Int} {n : Nat} : okM r c n = true ↔ (0 ≤ r ∧ r ≤ 64 ∧ 0 ≤ c ∧ c ≤ 64 ∧ (n : Int) = r * c) := by
  unfold okM; simp [and_assoc]
/-- A call that only lays new blocks and draws. -/
def RetV (v : Value) (w : World) (e : Ending) (w' : World) : Prop := e = .returned v ∧ Below w.heap.size w w'
theorem below_new (w : World) (o : Obj) : Below w.heap.size w (w.alloc o) := (Below.refl _ w).alloc (Nat.le_refl _) o
theorem Check_c (r c : Int) (A : Option Addr) (n cap : Nat) (w : World) :
    Calls Try.prog 46 #[mval r c (.slice A n cap)] w (RetV (.int .i64 (if okM r c n then 0 else 4)) w) := by
  by_cases h1 : r < 0
  · have e : okM r c n = false := by
      rw [Bool.eq_false_iff]; intro h; have := okM_iff.1 h; omega
    rw [e]
    clear e
    go_enter Try.func46, Try.ntmps46
    go_wp2
    go_ret; exact ⟨rfl, below_new _ _⟩
  · by_cases h2 : 64 < r
    · have e : okM r c n = false := by
        rw [Bool.eq_false_iff]; intro h; have := okM_iff.1 h; omega
      rw [e]
      clear e
      go_enter Try.func46, Try.ntmps46
      go_wp2
      go_ret; exact ⟨rfl, below_new _ _⟩
    · by_cases h3 : c < 0
      · have e : okM r c n = false := by
          rw [Bool.eq_false_iff]; intro h; have := okM_iff.1 h; omega
        rw [e]
        clear e
        go_enter Try.func46, Try.ntmps46
        go_wp2
        go_ret; exact ⟨rfl, below_new _ _⟩
      · by_cases h4 : 64 < c
        · have e : okM r c n = false := by
            rw [Bool.eq_false_iff]; intro h; have := okM_iff.1 h; omega
          rw [e]
          clear e
          go_enter Try.func46, Try.ntmps46
          go_wp2
          go_ret; exact ⟨rfl, below_new _ _⟩
        · obtain ⟨a, rfl⟩ : ∃ a : Nat, r = (a : Int) := ⟨r.toNat, by omega⟩
          obtain ⟨b, rfl⟩ : ∃ b : Nat, c = (b : Int) := ⟨c.toNat, by omega⟩
          have ha : a ≤ 64 := by omega
          have hb : b ≤ 64 := by omega
          have hab : a * b ≤ 64 * 64 := Nat.mul_le_mul ha hb
          have hm : wrap64 ((a : Int) * (b : Int)) = ((a * b : Nat) : Int) := by
            rw [← Int.natCast_mul]; unfold wrap64; omega
          have e1 : n = a * b → okM a b n = true := fun h5 => okM_iff.2 ⟨by omega, by omega, by omega, by omega, by rw [h5, Int.natCast_mul]⟩
          have e2 : n ≠ a * b → okM a b n = false := fun h5 => by
            rw [Bool.eq_false_iff]; intro h
            have h6 := (okM_iff.1 h).2.2.2.2
            rw [← Int.natCast_mul] at h6; omega
          have h1' : ((a : Int) < 0) = False := by simp
          have h2' : (64 < (a : Int)) = False := by simp; omega
          have h3' : ((b : Int) < 0) = False := by simp
          have h4' : (64 < (b : Int)) = False := by simp; omega
          clear h1 h2 h3 h4 hab
          by_cases h5 : n = a * b
          · rw [e1 h5]
            clear e1 e2
            subst h5
            go_enter Try.func46, Try.ntmps46
            go_wp2
            go_ret; exact ⟨rfl, below_new _ _⟩
          · rw [e2 h5]
            have h6 : ((n : Int) == ((a * b : Nat) : Int)) = false := by simp; omega
            clear e1 e2 h5
            go_enter Try.func46, Try.ntmps46
            go_wp2
            go_ret; exact ⟨rfl, below_new _ _⟩
/-- A complex number's cells. -/
abbrev nums (l : List C) : List Value := l.map fun z => .complex .f64 z.1 z.2
theorem at_c (r c : Int) (A : Option Addr) (l : List C) (cap : Nat) (i j k : Nat) (z : C) (hk : k = i * c.toNat + j) (hc0 : 0 ≤ c) (hc1 : c ≤ 64) (hi : i ≤ 64) (hz : l[k]? = some z) (B : Nat) (w : World) (hB : B ≤ w.heap.size) (hl : l.length ≤ 5000) (hr : Reads w B A (nums l)) :
    Calls Try.prog 64 #[mval r c (.slice A l.length cap), .int .i64 (i : Nat), .int .i64 (j : Nat)] w (RetV (.complex .f64 z.1 z.2) w) := by
  obtain ⟨b, rfl⟩ : ∃ b : Nat, c = (b : Int) := ⟨c.toNat, by omega⟩
  rw [Int.toNat_natCast] at hk
  have hv : (nums l)[k]? = some (.complex .f64 z.1 z.2) := by simp [nums, hz]
  obtain ⟨ad, rfl, hb, hcell⟩ := hr.at_ hv
  have hlt : k < l.length := by
    rcases Nat.lt_or_ge k l.length with h | h
    · exact h
    · rw [List.getElem?_eq_none h] at hz; cases hz
  have hib : i * b ≤ 64 * 64 := Nat.mul_le_mul hi (by omega)
  have hm : wrap64 ((i : Int) * (b : Int)) = (i : Int) * (b : Int) := by
    rw [← Int.natCast_mul]; unfold wrap64; omega
  have hcell2 : ∀ o, (w.alloc o).cell? (ad.add k) = some (.complex .f64 z.1 z.2) := fun o => by
    rw [World.cell?_alloc_lt w o (ad.add k) (by rw [block_of_add]; omega)]; exact hcell
  have hsum : wrap64 ((i : Int) * (b : Int) + (j : Int)) = (k : Int) := by rw [hk, ← Int.natCast_mul]; unfold wrap64; omega
  have HK := Lib.hid hk
  clear hk hz hv hr hcell hi hc0 hc1 hib
  go_enter Try.func64, Try.ntmps64
  go_wp2
  go_ret; exact ⟨rfl, below_new _ _⟩
end Go.Proofs.Ytdkcdcbbpebgmaa
