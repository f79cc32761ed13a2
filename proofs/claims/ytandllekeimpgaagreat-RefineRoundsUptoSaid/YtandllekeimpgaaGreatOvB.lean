/- A list of up to 1900000 numbers is written over (as MX21's Over_c). -/
import Derived.Test.YtandllekeimpgaaGreatMX21
namespace Go.Proofs.YtandllekeimpgaaGreat
open Go.RowKit Fl Ieee
set_option maxRecDepth 20000
attribute [local go_sem] run_store_float run_store_complex
theorem mark_big (k i : Nat) (hk : k ≤ 10000) (hi : i ≤ 2000000) (w : World) :
    Calls Tryz.prog 27 #[.int .i64 (k : Nat), .int .i64 (i : Nat)] w (RetC (mark k i) w) := by
  have hlt : floatOfInt .f64 (k : Int) < 18446744073709551616 := (ex_nearest (z := (k : Int)) (by omega)).1
  have HLt := Lib.hid hlt
  clear hlt
  go_enter Tryz.func27, Tryz.ntmps27
  go_wp2_with fail
  refine upon_sub _ _ _ _ ?_
  intro r1 n1 h1
  go_wp2
  go_ret
  exact closeC h1.1 rfl h1.2 HLt.out
theorem Over_big (B g cap n : Nat) (zs : List C) (w : World) (hz : zs.length = n) (hn : n ≤ 1900000) (h : w.ownsRow B 60 1 (.slice (some ⟨g, 0, none⟩) n cap) n (nums zs)) :
    Calls Tryz.prog 14 #[.slice (some ⟨g, 0, none⟩) n cap] w (RetOv B g cap n w) := by
  have HO := Lib.hid h
  have HL := Lib.hid hz
  have HN := Lib.hid hn
  clear h hz hn
  go_enter Tryz.func14, Tryz.ntmps14
  go_wp2
  go_loopw [2] (fun i wr => ∃ (k : Nat) (ys : List C), k ≤ n ∧ i = .int .i64 (k : Nat) ∧ ys.length = n ∧ wr.ownsRow B 60 1 (.slice (some ⟨g, 0, none⟩) n cap) n (nums ys) ∧ w.grownBy wr (some g)) (fun i _ => n - (intOf i).toNat)
  case atStart => exact ⟨0, zs, Nat.zero_le _, rfl, HL.out, HO.out, grown_refl _ _⟩
  case round =>
    obtain ⟨k, ys, hk, rfl, hy, hown, hgr⟩ := hrel
    have HOw := Lib.hid hown
    have HGr := Lib.hid hgr
    have HY := Lib.hid hy
    have hkb : k < 4611686018427387904 := by have := HN.out; omega
    clear hown hgr hy
    by_cases hlt : k < n
    · have hlti : (k : Int) < (n : Int) := Int.ofNat_lt.2 hlt
      have hM := mark_big 9 k (by omega) (by have := HN.out; omega) wr
      have HM := Lib.hid hM
      clear hM
      go_wp2_with fail
      refine HM.out.mono ?_
      rintro e w' ⟨x, y, m, rfl, hv, hx, hy, rfl⟩
      obtain ⟨u, hu⟩ := some_of_lt (l := ys) (k := k) (by rw [HY.out]; exact hlt)
      have hc : wr.cell? ⟨g, k, none⟩ = some (.complex .f64 u.1 u.2) := by
        rw [HOw.out.cellAt k (by omega)]; simp [nums, hu]
      have hf := HOw.out.frozenAt k
      clear hu hv
      go_wp2
      go_roundw
      case rel =>
        have hs := (show (wr.drewN m).ownsRow B 60 1 (.slice (some ⟨g, 0, none⟩) n cap) n (nums ys) from HOw.out).stored k (.complex .f64 x y)
        rw [show (nums ys).set k (.complex .f64 x y) = nums (ys.set k (x, y)) from nums_set ys k (x, y)] at hs
        exact ⟨k + 1, _, hlt, by go_num, by rw [List.length_set]; exact HY.out, hs.1, HGr.out.trans ((show wr.grownBy (wr.drewN m) (some g) from ⟨rfl, rfl, rfl, Nat.le_refl _, fun _ _ _ => rfl⟩).trans hs.2)⟩
      case measure => simp [intOf]; omega
    · have e : k = n := by omega
      subst e
      have hlti : ((k : Int) < (k : Int)) = False := by simp
      go_wp2
      go_end0
      exact ⟨ys, rfl, HY.out, HOw.out, HGr.out⟩
end Go.Proofs.YtandllekeimpgaaGreat
