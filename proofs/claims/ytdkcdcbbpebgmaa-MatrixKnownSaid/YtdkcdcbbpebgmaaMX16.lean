/- Layer 7: a matrix times a list. -/
import Derived.Test.YtdkcdcbbpebgmaaMX14
namespace Go.Proofs.Ytdkcdcbbpebgmaa
open Go.RowKit Fl Ieee
set_option maxRecDepth 20000
attribute [local go_sem] run_store_float run_store_complex
/-- What the list becomes, its first k. -/
def applied (l lx : List C) (cols k : Nat) : List C := (List.range k).map fun i => dot l lx cols 1 i 0 cols
theorem applied_succ (l lx : List C) (cols k : Nat) : applied l lx cols (k + 1) = applied l lx cols k ++ [dot l lx cols 1 k 0 cols] := by
  unfold applied; rw [List.range_succ, List.map_append]; rfl
def ApplyR (l lx : List C) (rows cols B : Nat) (W1 : World) (s i : Value) (wr : World) : Prop :=
  ∃ (k : Nat) (zs : List C), k ≤ rows ∧ i = .int .i64 (k : Nat) ∧ zs.map cnC = applied l lx cols k ∧ ltCs zs ∧ wr.ownsRow B 63 1 s k (nums zs) ∧ Below B W1 wr
def DotV (l lx : List C) (cols i : Nat) (W : World) (s k : Value) (wr : World) : Prop :=
  ∃ (n : Nat) (z : C), n ≤ cols ∧ k = .int .i64 (n : Nat) ∧ s = .complex .f64 z.1 z.2 ∧ cnC z = dot l lx cols 1 i 0 n ∧ ltC z ∧ Below W.heap.size W wr
set_option maxHeartbeats 2000000 in
theorem Apply_c (rows cols : Nat) (A X : Option Addr) (l lx : List C) (cap capx : Nat) (w : World) (hr : rows ≤ 64) (hc : cols ≤ 64) (hl : l.length = rows * cols) (hx : lx.length = cols) (hrd : Reads w w.heap.size A (nums l)) (hrx : Reads w w.heap.size X (nums lx)) :
    Calls Try.prog 15 #[mval rows cols (.slice A l.length cap), .slice X cols capx] w (RetLC (applied l lx cols rows) 0 w) := by
  obtain ⟨i0, hi, hz0, hz1, hz2⟩ := info_parts infoNum
  have HC := Lib.hid (Check_c rows cols A l.length cap)
  have ho : okM rows cols l.length = true := okM_iff.2 ⟨by omega, by omega, by omega, by omega, by rw [hl, Int.natCast_mul]⟩
  rw [ho] at HC
  have HRd := Lib.hid hrd
  have HRx := Lib.hid hrx
  have HLen := Lib.hid hl
  have HLx := Lib.hid hx
  clear hrd hrx hl ho hx
  go_enter Try.func15, Try.ntmps15
  go_wp2_with fail
  refine (HC.out _).mono ?_
  rintro e W1 ⟨rfl, hb⟩
  obtain ⟨hbx, hb0, hs1⟩ := frame0 hb
  have HBX := Lib.hid hbx
  obtain ⟨b0, b1, b2⟩ := hbx
  have HB := Lib.hid hb0
  have HS := Lib.hid hs1
  clear hb hb0 hs1
  go_wp2
  go_loopw [6, 23] (fun s i wr => ApplyR l lx rows cols (w.heap.size + 1) W1 s i wr) (fun _ i _ => rows - (intOf i).toNat)
  case atStart => exact ⟨0, [], Nat.zero_le _, rfl, rfl, by simp [ltCs], World.ownsRow_nil _ _ _ _, Below.refl _ _⟩
  case round =>
    rename World => w0
    obtain ⟨k, zs, hk, rfl, hz, hlz, hown, hbel⟩ := hrel
    have HZ := Lib.hid hz
    have HLz := Lib.hid hlz
    have HO := Lib.hid hown
    have HBe := Lib.hid hbel
    clear hz hlz hown hbel
    by_cases hlt : k < rows
    · go_wp2
      go_loopw [8, 28] (fun s i wv => DotV l lx cols k w0 s i wv) (fun _ i _ => cols - (intOf i).toNat)
      case atStart => exact ⟨0, (0, 0), Nat.zero_le _, rfl, rfl, (by decide : cnC (0, 0) = (0, 0)), ⟨by decide, by decide⟩, Below.refl _ _⟩
      case round =>
        rename World => wv
        obtain ⟨n, z, hn, rfl, rfl, hz, hlz, hbv⟩ := hrel
        have HZ2 := Lib.hid hz
        have HLz2 := Lib.hid hlz
        have HBv := Lib.hid hbv
        clear hz hlz hbv
        have hBb : w.heap.size + 1 ≤ W1.heap.size := HS.out
        have hWr : Below (w.heap.size + 1) W1 wv := HBe.out.trans (HBv.out.mono (Nat.le_trans hBb HBe.out.size))
        by_cases hlt2 : n < cols
        · obtain ⟨x, hx⟩ := some_of_lt (l := lx) (k := n) (by rw [HLx.out]; exact hlt2)
          have hxv : (nums lx)[n]? = some (.complex .f64 x.1 x.2) := by simp [nums, hx]
          have h0 : Below w.heap.size w wv := HB.out.trans (hWr.mono (Nat.le_succ _))
          obtain ⟨ad, rfl, _, hc1⟩ := (HRx.out.below h0).at_ hxv
          obtain ⟨d0, d1, d2⟩ := Box.below (W := W1) HBX.out hWr (Nat.lt_succ_self _)
          have HAt := Lib.hid (at_e rows cols A l cap k n wv HLen.out hr hc hlt hlt2 ((HRd.out.below h0).more h0.size))
          have hex : cnC x = ent lx 1 n 0 := by
            unfold ent
            have : n * 1 + 0 = n := by omega
            rw [this, List.getD_eq_getElem?_getD, hx]; rfl
          have HEx := Lib.hid hex
          have HM := Lib.hid (fun (V : World) (hV : Below wv.heap.size wv V) => from_c (Mul_c (l.getD (k * cols + n) (0, 0)).1 (l.getD (k * cols + n) (0, 0)).2 x.1 x.2 V) hV)
          have HA := Lib.hid (fun (y : C) (V : World) (hV : Below wv.heap.size wv V) => from_c (Add_c z.1 z.2 y.1 y.2 V) hV)
          have HWr := Lib.hid hWr
          have hlx3 : n < 4611686018427387904 := by omega
          clear hx hxv h0 hex hWr hBb
          go_wp2_with fail
          refine HAt.out.mono ?_
          rintro e V1 ⟨rfl, hV1⟩
          go_wp2_with fail
          refine (HM.out V1 hV1).mono ?_
          rintro e V2 ⟨y, rfl, hy, hly, hV2⟩
          go_wp2_with fail
          refine (HA.out y V2 hV2).mono ?_
          rintro e V3 ⟨s2, rfl, hs2, hls2, hV3⟩
          have hs : cnC s2 = dot l lx cols 1 k 0 (n + 1) := by
            rw [hs2]
            show pAdd (cnC z) (cnC y) = pAdd (dot l lx cols 1 k 0 n) (pMul (ent l cols k n) (ent lx 1 n 0))
            rw [HZ2.out, hy, ← HEx.out]
            rfl
          have HSS := Lib.hid hs
          have HV3 := Lib.hid (HBv.out.trans (hV3.mono HBv.out.size))
          clear hs hy hs2 hV1 hV2 hV3 hly
          go_wp2
          go_roundw
          case rel => exact ⟨n + 1, s2, hlt2, by go_num, rfl, HSS.out, hls2, HV3.out⟩
          case measure => simp [intOf]; omega
        · have e : n = cols := by omega
          subst e
          have hsz : w.heap.size + 1 ≤ w0.heap.size := Nat.le_trans hBb HBe.out.size
          have hOv : wv.ownsRow (w.heap.size + 1) 63 1 u6 k (nums zs) := own_below HO.out HBv.out
          have hsz2 : w.heap.size + 1 ≤ (wv.alloc (.cells #[.complex .f64 z.1 z.2] 63)).heap.size := Nat.le_trans hsz (Nat.le_trans HBv.out.size (below_new wv _).size)
          have HOv := Lib.hid (hOv.alloc (.cells #[.complex .f64 z.1 z.2] 63))
          have HSz := Lib.hid hsz2
          have HWr := Lib.hid hWr
          have hzl : zs.length = k := by have := congrArg List.length HZ.out; simpa [applied] using this
          clear hOv hsz hsz2 hWr hBb
          go_wp2_with (at_builtin; refine wpList_append_own _ rfl (.tmp 42) (.tmp 44) 26 rfl (w.heap.size + 1) 63 i0 (.complex .f64 0 0) 1 16 Try.underlying26 hi hz0 hz1 hz2 rfl (by decide) _ _ _ rfl HOv.out ⟨wv.heap.size, 0, none⟩ 1 1 [.complex .f64 z.1 z.2] rfl rfl (cell_one_new _ _ _) (by intro u hu; simp at hu; subst hu; rfl) (by unfold maxLen; omega) (by omega) HSz.out ?_; intro v' w1 hown1 hgrow1 hnil1)
          clear hnil1
          have hrel1 : ApplyR l lx rows n (w.heap.size + 1) W1 v' (.int .i64 ((k + 1 : Nat) : Int)) w1 := by
            refine ⟨k + 1, zs ++ [z], hlt, rfl, ?_, ?_, ?_, ?_⟩
            · rw [List.map_append, HZ.out, applied_succ, List.map_cons, List.map_nil, HZ2.out]
            · intro y hy
              rcases List.mem_append.1 hy with h | h
              · exact HLz.out y h
              · simp at h; rw [h]; exact HLz2.out
            · have e : nums (zs ++ [z]) = nums zs ++ [.complex .f64 z.1 z.2] := by simp [nums]
              rw [e]; exact hown1
            · exact (HWr.out.new HS.out _).grown hgrow1 HSz.out (fun j hj => (HOv.out.lt j hj).1)
          have HRel := Lib.hid hrel1
          clear hrel1 hown1 hgrow1
          go_wp2
          go_roundw
          case rel =>
            have h := HRel.out
            simpa using h
          case measure => simp [intOf]; omega
    · have e : k = rows := by omega
      subst e
      go_wp2
      go_ret2
      have hl2 : zs.length = (applied l lx cols k).length := by rw [← HZ.out, List.length_map]
      have hl3 : (applied l lx cols k).length = k := by simp [applied]
      refine ⟨_, zs, rfl, HZ.out, HLz.out, ?_, HB.out.trans (HBe.out.mono (Nat.le_succ _))⟩
      rw [hl3]
      exact own_base HO.out (Nat.le_succ _)
end Go.Proofs.Ytdkcdcbbpebgmaa
