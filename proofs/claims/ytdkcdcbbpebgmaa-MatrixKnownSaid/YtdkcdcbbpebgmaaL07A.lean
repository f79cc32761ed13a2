/- Layer 7's statements: what they call. -/
import Derived.Test.YtdkcdcbbpebgmaaMX18
import Derived.Test.YtdkcdcbbpebgmaaArg
namespace Go.Proofs.Ytdkcdcbbpebgmaa
open Go.RowKit Fl Ieee
set_option maxRecDepth 20000
attribute [local go_sem] run_store_float run_store_complex
theorem frameM {w W1 : World} {r c : Int} {s : Value} {t : TypeId} (hb : Below (w.alloc (.cells #[.int .i64 r, .int .i64 c, s] t)).heap.size (w.alloc (.cells #[.int .i64 r, .int .i64 c, s] t)) W1) :
    Box W1 w.heap.size r c s ∧ Below w.heap.size w W1 ∧ w.heap.size < W1.heap.size := frame0 hb
theorem large_c (r c : Int) (A : Option Addr) (n cap : Nat) (w : World) :
    Calls Try.prog 8 #[mval r c (.slice A n cap)] w (RetBB (decide ((n : Int) > 4098)) w) := by
  have hb := below_new w (.cells #[.int .i64 r, .int .i64 c, .slice A n cap] 24)
  have HB := Lib.hid hb
  clear hb
  go_enter Try.func8, Try.ntmps8
  go_wp2
  go_ret
  exact ⟨rfl, HB.out⟩
theorem is_c (r c : Int) (A : Option Addr) (n cap : Nat) (w : World) :
    Calls Try.prog 52 #[mval r c (.slice A n cap)] w (RetBB (okM r c n) w) := by
  have HC := Lib.hid (Check_c r c A n cap)
  cases ho : okM r c n
  · rw [ho] at HC
    go_enter Try.func52, Try.ntmps52
    go_wp2_with fail
    refine (HC.out _).mono ?_
    rintro e W1 ⟨rfl, hb⟩
    have HB := Lib.hid (frame0 hb).2.1
    clear hb
    go_wp2
    go_ret
    exact ⟨rfl, HB.out⟩
  · rw [ho] at HC
    go_enter Try.func52, Try.ntmps52
    go_wp2_with fail
    refine (HC.out _).mono ?_
    rintro e W1 ⟨rfl, hb⟩
    have HB := Lib.hid (frame0 hb).2.1
    clear hb
    go_wp2
    go_ret
    exact ⟨rfl, HB.out⟩
theorem made7_c (r c : Int) (A : Option Addr) (n cap : Nat) (w : World) :
    Calls Try.prog 58 #[.int .i64 r, .int .i64 c, .slice A n cap] w (RetV (mval r c (.slice A n cap)) w) := by
  go_enter Try.func58, Try.ntmps58
  go_wp2
  refine bodyPost_ret (v := mval r c (.slice A n cap)) (by simp [results, Try.results58, go_sem]) rfl ?_
  exact ⟨rfl, below_new _ _⟩
theorem entry7_c (rows cols : Nat) (A : Option Addr) (l : List C) (cap i j : Nat) (w : World) (hl : l.length = rows * cols) (hr : rows ≤ 64) (hc : cols ≤ 64) (hi : i < rows) (hj : j < cols) (hrd : Reads w w.heap.size A (nums l)) :
    Calls Try.prog 56 #[mval rows cols (.slice A l.length cap), .int .i64 (i : Nat), .int .i64 (j : Nat)] w (RetV (.complex .f64 (l.getD (i * cols + j) (0, 0)).1 (l.getD (i * cols + j) (0, 0)).2) w) := by
  have hz := at_ok hl hi hj
  obtain ⟨z, hze⟩ : ∃ z, l.getD (i * cols + j) (0, 0) = z := ⟨_, rfl⟩
  rw [hze] at hz ⊢
  have hv : (nums l)[i * cols + j]? = some (.complex .f64 z.1 z.2) := by simp [nums, hz]
  obtain ⟨ad, rfl, hb, hcell⟩ := hrd.at_ hv
  have hlt := lt_of_some hz
  have hll : l.length ≤ 4096 := by rw [hl]; exact prod_small hr hc
  obtain ⟨k, hk⟩ : ∃ k, i * cols + j = k := ⟨_, rfl⟩
  have hib : i * cols ≤ 4096 := by omega
  rw [hk] at hcell hlt
  have hm : wrap64 ((i : Int) * (cols : Int)) = (i : Int) * (cols : Int) := by
    rw [← Int.natCast_mul]; exact wrap_small _ hib
  have hsum : wrap64 ((i : Int) * (cols : Int) + (j : Int)) = (k : Int) := by rw [← Int.natCast_mul, ← Int.natCast_add, hk]; exact wrap_small k (by omega)
  have hcell2 : ∀ o, (w.alloc o).cell? (ad.add k) = some (.complex .f64 z.1 z.2) := fun o => by
    rw [World.cell?_alloc_lt w o (ad.add k) (by rw [block_of_add]; omega)]; exact hcell
  have HK := Lib.hid hk
  have HLt := Lib.hid hlt
  clear hk hz hv hrd hcell hib hl hr hc hi hj hze
  go_enter Try.func56, Try.ntmps56
  go_wp2
  go_ret; exact ⟨rfl, below_new _ _⟩
end Go.Proofs.Ytdkcdcbbpebgmaa
