/- Layer 1: sums and their errors. -/
import Derived.Test.YtajdfbjjgjpicaaMem
import Derived.Test.YtajdfbjjgjpicaaR01
namespace Go.Proofs.Ytajdfbjjgjpicaa
open Go.RowKit Fl Ieee
set_option maxRecDepth 20000
/-- A sum and its error, up to NaN. -/
def twoSum (a b : Nat) : Nat × Nat :=
  let s := fadd a b
  let t := fsub s a
  let u := fsub s t
  let v := fsub a u
  let w := fsub b t
  (s, fadd v w)
def sumStep (st : Nat × List Nat) (x : Nat) : Nat × List Nat := ((twoSum st.1 x).1, st.2 ++ [(twoSum st.1 x).2])
def sumErr (l : List Nat) : Nat × List Nat := l.foldl sumStep (0, [])
theorem sumErr_take {l : List Nat} {k x : Nat} (h : l[k]? = some x) :
    sumErr ((l.take (k + 1)).map (cn .f64)) = sumStep (sumErr ((l.take k).map (cn .f64))) (cn .f64 x) := by
  have hk : k < l.length := by
    rcases Nat.lt_or_ge k l.length with h1 | h1
    · exact h1
    · rw [List.getElem?_eq_none h1] at h; cases h
  have e : l[k] = x := by rw [List.getElem?_eq_getElem hk] at h; exact Option.some.inj h
  rw [List.take_succ_eq_append_getElem hk, e, List.map_append]
  unfold sumErr
  rw [List.foldl_append]; rfl
/-- Two reals that are v up to NaN are handed back. -/
def RetRR (v : Nat × Nat) (w : World) (e : Ending) (w' : World) : Prop :=
  ∃ x y n, e = .returned (.tuple #[.float .f64 x, .float .f64 y]) ∧ (cn .f64 x, cn .f64 y) = v ∧ x < 18446744073709551616 ∧ y < 18446744073709551616 ∧ w' = w.drewN n
theorem closeRR {v : Nat × Nat} {x y n : Nat} {w : World} (h1 : cn .f64 x = v.1) (h2 : cn .f64 y = v.2) (hx : x < 18446744073709551616) (hy : y < 18446744073709551616) :
    RetRR v w (.returned (.tuple #[.float .f64 x, .float .f64 y])) (w.drewN n) := ⟨x, y, n, rfl, by rw [h1, h2], hx, hy, rfl⟩
end Go.Proofs.Ytajdfbjjgjpicaa
namespace Go.Proofs.Ytajdfbjjgjpicaa
open Go.RowKit Fl Ieee
set_option maxRecDepth 20000
attribute [local go_sem] Fl.order_self Fl.order_self' Fl.order_eq Fl.order_ne Fl.order_lt Fl.order_gt Fl.fle_fold Fl.fge_fold
end Go.Proofs.Ytajdfbjjgjpicaa
namespace Go.Proofs.Ytajdfbjjgjpicaa
open Go.RowKit Fl Ieee
set_option maxRecDepth 20000
attribute [local go_sem] Fl.order_self Fl.order_self' Fl.order_eq Fl.order_ne Fl.order_lt Fl.order_gt Fl.fle_fold Fl.fge_fold
/-- The first of the greatest of the first k numbers: where, and which. -/
def great (l : List Nat) : Nat → Int × Nat
  | 0 => (-1, 0)
  | k + 1 => match l[k]? with
    | some x => if !isNaN double x && (decide ((great l k).1 < 0) || flt .f64 (great l k).2 x) then ((k : Int), x) else great l k
    | none => great l k
theorem great_bounds (l : List Nat) (k : Nat) : -1 ≤ (great l k).1 ∧ (great l k).1 < (k : Int) ∧ (0 ≤ (great l k).1 → l[(great l k).1.toNat]? = some (great l k).2) ∧ ((great l k).1 < 0 → great l k = (-1, 0)) := by
  induction k with
  | zero => exact ⟨by simp [great], by simp [great], fun h => absurd h (by simp [great]), fun _ => rfl⟩
  | succ k ih =>
    unfold great
    split
    · rename_i x hx
      split
      · exact ⟨by show (-1 : Int) ≤ (k : Int); omega, by show (k : Int) < ((k + 1 : Nat) : Int); omega, fun _ => by simpa using hx, fun h => absurd h (by show ¬ ((k : Int) < 0); omega)⟩
      · exact ⟨ih.1, by omega, ih.2.2.1, ih.2.2.2⟩
    · exact ⟨ih.1, by omega, ih.2.2.1, ih.2.2.2⟩
theorem great_hit {l : List Nat} {k x : Nat} (h : l[k]? = some x) (hc : (!isNaN double x && (decide ((great l k).1 < 0) || flt .f64 (great l k).2 x)) = true) : great l (k + 1) = ((k : Int), x) := by
  rw [great]; simp only [h]; rw [if_pos hc]
theorem great_miss {l : List Nat} {k x : Nat} (h : l[k]? = some x) (hc : (!isNaN double x && (decide ((great l k).1 < 0) || flt .f64 (great l k).2 x)) = false) : great l (k + 1) = great l k := by
  rw [great]; simp only [h]; rw [if_neg (by rw [hc]; simp)]
def GreatR (l : List Nat) (a m i : Value) : Prop := ∃ k : Nat, k ≤ l.length ∧ i = .int .i64 (k : Nat) ∧ a = .int .i64 (great l k).1 ∧ m = .float .f64 (great l k).2
set_option maxHeartbeats 1000000 in
theorem Greatest_c (A : Option Addr) (l : List Nat) (c : Nat) (w : World) (hl : l.length * 8 ≤ 140737488355328) (hr : Reads w w.heap.size A (reals l)) :
    Calls Try.prog 68 #[.slice A l.length c] w fun e w' => e = .returned (.tuple #[.int .i64 (great l l.length).1, .float .f64 (great l l.length).2]) ∧ w = w' := by
  have HR := Lib.hid hr
  clear hr
  go_enter Try.func68, Try.ntmps68
  go_wp2
  go_loop [4, 5, 10] (fun a m i => GreatR l a m i) (fun _ _ i => l.length - (intOf i).toNat)
  case atStart => exact ⟨0, Nat.zero_le _, rfl, rfl, rfl⟩
  case round =>
    obtain ⟨k, hk, rfl, rfl, rfl⟩ := hrel
    obtain ⟨at_, hat⟩ : ∃ t, (great l k).1 = t := ⟨_, rfl⟩
    obtain ⟨mo, hmo⟩ : ∃ t, (great l k).2 = t := ⟨_, rfl⟩
    have hbo := great_bounds l k
    rw [hat, hmo] at hbo
    have hb1 := hbo.1
    have hb2 := hbo.2.1
    clear hbo
    by_cases hlt : k < l.length
    · obtain ⟨x, hx⟩ := some_of_lt hlt
      have hv1 : (reals l)[k]? = some (.float .f64 x) := by simp [reals, hx]
      obtain ⟨ad, rfl, hab, hcell⟩ := HR.out.at_ hv1
      have hit := great_hit hx
      have miss := great_miss hx
      rw [hat, hmo] at hit miss ⊢
      have HX := Lib.hid hx
      have HAT := Lib.hid hat
      have HMO := Lib.hid hmo
      have HIT := Lib.hid hit
      have MISS := Lib.hid miss
      clear hx hv1 hat hmo hit miss
      cases h1 : isNaN double x
      · have h1' : isNaN FloatKind.f64.format x = false := h1
        cases h2 : decide (at_ < 0)
        · cases h3 : flt .f64 mo x
          · have E : Hid (great l (k + 1) = great l k) := MISS.out (by rw [h1, h2, h3]; rfl)
            clear h1
            go_wp2
            go_round
            case rel => exact ⟨k + 1, by omega, by go_num, by rw [E.out, HAT.out], by rw [E.out, HMO.out]⟩
            case measure => simp [intOf]; omega
          · have E : Hid (great l (k + 1) = ((k : Int), x)) := HIT.out (by rw [h1, h2, h3]; rfl)
            clear h1
            go_wp2
            go_round
            case rel => exact ⟨k + 1, by omega, by go_num, by rw [E.out], by rw [E.out]⟩
            case measure => simp [intOf]; omega
        · have E : Hid (great l (k + 1) = ((k : Int), x)) := HIT.out (by rw [h1, h2]; rfl)
          clear h1
          go_wp2
          go_round
          case rel => exact ⟨k + 1, by omega, by go_num, by rw [E.out], by rw [E.out]⟩
          case measure => simp [intOf]; omega
      · have h1' : isNaN FloatKind.f64.format x = true := h1
        have E : Hid (great l (k + 1) = great l k) := MISS.out (by rw [h1]; rfl)
        clear h1
        go_wp2
        go_round
        case rel => exact ⟨k + 1, by omega, by go_num, by rw [E.out, HAT.out], by rw [E.out, HMO.out]⟩
        case measure => simp [intOf]; omega
    · have e : k = l.length := by omega
      go_wp2
      go_ret2
      exact ⟨rfl, rfl⟩
def RGreatR (l : List Nat) (w : World) (a i : Value) (wr : World) : Prop := ∃ k m : Nat, k ≤ l.length ∧ i = .int .i64 (k : Nat) ∧ a = .int .i64 (great l k).1 ∧ wr = w.drewN m
def RetIF (a : Int) (m : Nat) (w : World) (e : Ending) (w' : World) : Prop := ∃ n, e = .returned (.tuple #[.int .i64 a, .float .f64 m]) ∧ w' = w.drewN n
theorem retIF {a b : Int} {m p n : Nat} {w : World} (h : b = a) (h' : p = m) : RetIF a m w (.returned (.tuple #[.int .i64 b, .float .f64 p])) (w.drewN n) := ⟨n, by rw [h, h'], rfl⟩
theorem retIF2 {a b : Int} {m p k n : Nat} {w : World} (h : b = a) (h' : p = m) : RetIF a m w (.returned (.tuple #[.int .i64 b, .float .f64 p])) ((w.drewN k).drewN n) := ⟨k + n, by rw [h, h'], World.drewN_drewN ..⟩
set_option maxHeartbeats 2000000 in
theorem RGreatest_c (A : Option Addr) (l : List Nat) (c : Nat) (w : World) (hl : l.length * 8 ≤ 140737488355328) (hr : Reads w w.heap.size A (reals l)) :
    Calls Try.prog 98 #[.slice A l.length c] w (RetIF (great l l.length).1 (great l l.length).2 w) := by
  have HR := Lib.hid hr
  clear hr
  go_enter Try.func98, Try.ntmps98
  go_wp2
  go_loopw [4, 5] (fun a i wr => RGreatR l w a i wr) (fun _ i _ => l.length - (intOf i).toNat)
  case atStart => exact ⟨0, 0, Nat.zero_le _, rfl, rfl, rfl⟩
  case round =>
    obtain ⟨k, dn, hk, rfl, rfl, rfl⟩ := hrel
    obtain ⟨at_, hat⟩ : ∃ t, (great l k).1 = t := ⟨_, rfl⟩
    obtain ⟨mo, hmo⟩ : ∃ t, (great l k).2 = t := ⟨_, rfl⟩
    have hbo := great_bounds l k
    rw [hat, hmo] at hbo
    have hb1 := hbo.1
    have hb2 := hbo.2.1
    have hb3 := hbo.2.2.1
    have hb4 := hbo.2.2.2
    have HB3 := Lib.hid hb3
    have HB4 := Lib.hid hb4
    clear hbo hb3 hb4
    by_cases hlt : k < l.length
    · obtain ⟨x, hx⟩ := some_of_lt hlt
      have hv1 : (reals l)[k]? = some (.float .f64 x) := by simp [reals, hx]
      obtain ⟨ad, rfl, hab, hcell⟩ := HR.out.at_ hv1
      have hit := great_hit hx
      have miss := great_miss hx
      rw [hat, hmo] at hit miss
      rw [hat]
      have HX := Lib.hid hx
      have HAT := Lib.hid hat
      have HMO := Lib.hid hmo
      have HIT := Lib.hid hit
      have MISS := Lib.hid miss
      clear hx hv1 hat hmo hit miss
      cases h1 : isNaN double x
      · have h1' : isNaN FloatKind.f64.format x = false := h1
        cases h2 : decide (at_ < 0)
        · obtain ⟨p, rfl⟩ : ∃ p : Nat, at_ = (p : Int) := ⟨at_.toNat, by have := of_decide_eq_false h2; omega⟩
          have hpm : l[p]? = some mo := by have := HB3.out (by omega); simpa using this
          have hpv : (reals l)[p]? = some (.float .f64 mo) := by simp [reals, hpm]
          obtain ⟨bd, hbd, _, hcell2⟩ := HR.out.at_ hpv
          obtain rfl : ad = bd := by injection hbd
          clear hpm hpv hbd
          cases h3 : flt .f64 mo x
          · have E : Hid (great l (k + 1) = great l k) := MISS.out (by rw [h1, h2, h3]; rfl)
            clear h1
            go_wp2
            go_quiet (fail)
            go_wp2
            go_roundw
            case rel => exact ⟨k + 1, _, by omega, by go_num, by rw [E.out, HAT.out], rfl⟩
            case measure => simp [intOf]; omega
          · have E : Hid (great l (k + 1) = ((k : Int), x)) := HIT.out (by rw [h1, h2, h3]; rfl)
            clear h1
            go_wp2
            go_quiet (fail)
            go_wp2
            go_roundw
            case rel => exact ⟨k + 1, _, by omega, by go_num, by rw [E.out], rfl⟩
            case measure => simp [intOf]; omega
        · have E : Hid (great l (k + 1) = ((k : Int), x)) := HIT.out (by rw [h1, h2]; rfl)
          clear h1
          go_wp2
          go_quiet (fail)
          go_wp2
          go_roundw
          case rel => exact ⟨k + 1, _, by omega, by go_num, by rw [E.out], rfl⟩
          case measure => simp [intOf]; omega
      · have h1' : isNaN FloatKind.f64.format x = true := h1
        have E : Hid (great l (k + 1) = great l k) := MISS.out (by rw [h1]; rfl)
        clear h1
        go_wp2
        go_quiet (fail)
        go_wp2
        go_roundw
        case rel => exact ⟨k + 1, _, by omega, by go_num, by rw [E.out, HAT.out], rfl⟩
        case measure => simp [intOf]; omega
    · have e : k = l.length := by omega
      rw [hat]
      cases h2 : decide (at_ < 0)
      · obtain ⟨p, rfl⟩ : ∃ p : Nat, at_ = (p : Int) := ⟨at_.toNat, by have := of_decide_eq_false h2; omega⟩
        have hpm : l[p]? = some mo := by have := HB3.out (by omega); simpa using this
        have hpv : (reals l)[p]? = some (.float .f64 mo) := by simp [reals, hpm]
        obtain ⟨bd, rfl, _, hcell2⟩ := HR.out.at_ hpv
        have hpl := lt_of_some hpm
        have HAT := Lib.hid hat
        have HMO := Lib.hid hmo
        clear hpm hpv hat hmo
        have E := Lib.hid e
        clear e
        go_wp2
        go_quiet (fail)
        go_wp2
        go_ret2
        refine retIF2 ?_ ?_
        · rw [← E.out, HAT.out]
        · rw [← E.out, HMO.out]
      · have h4 := HB4.out (of_decide_eq_true h2)
        have HH4 := Lib.hid h4
        have E := Lib.hid e
        clear e hat hmo h4
        go_wp2
        go_ret2
        refine retIF ?_ ?_
        · rw [← E.out, HH4.out]
        · rw [← E.out, HH4.out]
end Go.Proofs.Ytajdfbjjgjpicaa
