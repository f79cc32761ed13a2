/- Layer 7: lists that are the same; a row. -/
import Derived.Test.YtdkcdcbbpebgmaaMX6
namespace Go.Proofs.Ytdkcdcbbpebgmaa
open Go.RowKit Fl Ieee
set_option maxRecDepth 20000
attribute [local go_sem] run_store_float run_store_complex
theorem wrap_small (x : Nat) (h : x ≤ 4096) : wrap64 (x : Int) = (x : Int) := by unfold wrap64; omega
theorem wrap_sum (x y : Nat) (h : x + y ≤ 4096) : wrap64 ((x : Int) + (y : Int)) = (x : Int) + (y : Int) := by unfold wrap64; omega
theorem frame0 {w W1 : World} {r c : Int} {s : Value} {t : TypeId} (hb : Below (w.alloc (.cells #[.int .i64 r, .int .i64 c, s] t)).heap.size (w.alloc (.cells #[.int .i64 r, .int .i64 c, s] t)) W1) :
    Box W1 w.heap.size r c s ∧ Below w.heap.size w W1 ∧ w.heap.size < W1.heap.size := by
  obtain ⟨w1, hw1⟩ : ∃ w1, w1 = w.alloc (.cells #[.int .i64 r, .int .i64 c, s] t) := ⟨_, rfl⟩
  have e1 : w1.heap.size = w.heap.size + 1 := by rw [hw1]; simp
  have hbx : Box w1 w.heap.size r c s := by rw [hw1]; exact Box.new _ _ _ _ _
  have hb1 : Below w.heap.size w w1 := by rw [hw1]; exact below_new _ _
  rw [← hw1] at hb
  exact ⟨hbx.below hb (by omega), hb1.trans (hb.mono (by omega)), by have := hb.size; omega⟩
/-- A list and what is told of it. -/
def RetLE (l : List C) (er : Int) (w : World) (e : Ending) (w' : World) : Prop := ∃ s, e = .returned (.tuple #[s, .int .i64 er]) ∧ w'.ownsRow w.heap.size 63 1 s l.length (nums l) ∧ Below w.heap.size w w'
/-- The row's numbers. -/
def rowOf (l : List C) (cols i : Nat) : List C := (l.drop (i * cols)).take cols
theorem rowOf_length {l : List C} {rows cols i : Nat} (hl : l.length = rows * cols) (hi : i < rows) : (rowOf l cols i).length = cols := by
  unfold rowOf
  have h1 : (i + 1) * cols ≤ rows * cols := Nat.mul_le_mul_right _ hi
  rw [Nat.add_mul, Nat.one_mul] at h1
  rw [List.length_take, List.length_drop]; omega
set_option maxHeartbeats 1000000 in
theorem Row_some (rows cols : Nat) (ad : Addr) (l : List C) (cap i : Nat) (w : World) (hr : rows ≤ 64) (hc : cols ≤ 64) (hc0 : 0 < cols) (hl : l.length = rows * cols) (hcap : l.length ≤ cap) (hi : i < rows) (hrd : Reads w w.heap.size (some ad) (nums l)) :
    Calls Try.prog 13 #[mval rows cols (.slice (some ad) l.length cap), .int .i64 (i : Nat)] w (RetLE (rowOf l cols i) 0 w) := by
  obtain ⟨i0, hz, hz0, hz1, hz2⟩ := info_parts infoNum
  have HC := Lib.hid (Check_c rows cols (some ad) l.length cap)
  have ho : okM rows cols l.length = true := okM_iff.2 ⟨by omega, by omega, by omega, by omega, by rw [hl, Int.natCast_mul]⟩
  rw [ho] at HC
  have h1 : (i + 1) * cols ≤ l.length := by rw [hl]; exact Nat.mul_le_mul_right _ hi
  have h2 := prod_small hr hc
  have hrl := rowOf_length hl hi
  obtain ⟨x, hx⟩ : ∃ x, i * cols = x := ⟨_, rfl⟩
  rw [Nat.add_mul, Nat.one_mul, hx] at h1
  have hxs : x + cols ≤ 4096 := by rw [hl] at h1; exact Nat.le_trans h1 h2
  have hne : (cap = x) = False := eq_false (by omega)
  have hdf : x + cols - x = cols := Nat.add_sub_cancel_left _ _
  have H63 := Lib.hid (show 0 + cols ≤ maxLen by unfold maxLen; omega)
  have HBy := Lib.hid (show (0 + cols) * 16 ≤ 140737488355328 by omega)
  have e1 : (i : Int) * (cols : Int) = (x : Int) := by rw [← Int.natCast_mul, hx]
  have e2 : ((i : Int) + 1) * (cols : Int) = (x : Int) + (cols : Int) := by rw [Int.add_mul, Int.one_mul, e1]
  have m1 : wrap64 ((i : Int) * (cols : Int)) = (x : Int) := by rw [e1]; exact wrap_small x (Nat.le_trans (Nat.le_add_right x cols) hxs)
  have m2 : wrap64 (((i : Int) + 1) * (cols : Int)) = (x : Int) + (cols : Int) := by rw [e2]; exact wrap_sum x cols hxs
  have hnews : ∀ (W : World), Below w.heap.size w W → ∀ j u, (nums (rowOf l cols i))[j]? = some u → W.cell? ((ad.add x).add j) = some u := by
    intro W hW j u hu
    have h3 : (rowOf l cols i)[j]? = l[x + j]? ∨ (rowOf l cols i)[j]? = none := by
      unfold rowOf
      rw [hx, List.getElem?_take]
      split
      · left; rw [List.getElem?_drop]
      · right; rfl
    obtain ⟨z, hz, rfl⟩ : ∃ z, (rowOf l cols i)[j]? = some z ∧ u = .complex .f64 z.1 z.2 := by
      simp only [nums, List.getElem?_map, Option.map_eq_some_iff] at hu
      obtain ⟨z, h4, h5⟩ := hu
      exact ⟨z, h4, h5.symm⟩
    have hl2 : l[x + j]? = some z := by
      rcases h3 with h3 | h3
      · rw [← h3]; exact hz
      · rw [h3] at hz; cases hz
    have hv : (nums l)[x + j]? = some (.complex .f64 z.1 z.2) := by simp [nums, hl2]
    obtain ⟨ad', e, _, hcell⟩ := (hrd.below hW).at_ hv
    have e' : ad = ad' := by simpa using e
    subst e'
    rw [add_of_add]; exact hcell
  have HN := Lib.hid hnews
  have HL := Lib.hid hrl
  have HEv := Lib.hid (show Value.slice (if cap = x then some ad else some (ad.add x)) (x + cols - x) (cap - x) = .slice (some (ad.add x)) cols (cap - x) by
    rw [if_neg (fun e => hne.mp e), hdf])
  clear ho hl hrd hx h2 e1 e2 hnews hrl hne hdf hxs hc0
  go_enter Try.func13, Try.ntmps13
  go_wp2_with fail
  refine (HC.out _).mono ?_
  rintro e W1 ⟨rfl, hb⟩
  obtain ⟨hbx, hb0, hs1⟩ := frame0 hb
  obtain ⟨d0, d1, d2⟩ := hbx.below (below_new W1 (.cells #[] 63)) hs1
  obtain ⟨b0, b1, b2⟩ := hbx
  have HB := Lib.hid hb0
  have HS := Lib.hid (Nat.le_of_lt hs1)
  have HO := Lib.hid (World.ownsRow_made (e := 63) (size := 1) (base := w.heap.size) W1 #[] 0 (Nat.le_of_lt hs1) (Nat.zero_le _) rfl)
  clear hb hb0 hs1
  go_wp2_with (at_builtin; refine wpList_append_own _ rfl (.tmp 20) (.tmp 32) 26 rfl w.heap.size 63 i0 (.complex .f64 0 0) 1 16 Try.underlying26 hz hz0 hz1 hz2 rfl (by decide) _ _ _ rfl HO.out (ad.add x) cols (cap - x) (nums (rowOf l cols i)) HEv.out (by rw [List.length_map, HL.out, Nat.mul_one]) (HN.out _ (HB.out.trans ((below_new W1 _).mono HS.out))) (by intro u hu; simp only [nums, List.mem_map] at hu; obtain ⟨z, _, rfl⟩ := hu; rfl) H63.out HBy.out (Nat.le_trans HS.out (below_new W1 _).size) ?_; intro v' w1 hown1 hgrow1 hnil1)
  all_goals
    have hbel : Below w.heap.size w w1 := (HB.out.trans ((below_new W1 _).mono HS.out)).grown hgrow1 (Nat.le_trans HS.out (below_new W1 _).size) (fun j hj => (HO.out.lt j hj).1)
    go_ret2
    refine ⟨v', rfl, ?_, hbel⟩
    rw [HL.out]
    simpa using hown1
end Go.Proofs.Ytdkcdcbbpebgmaa
