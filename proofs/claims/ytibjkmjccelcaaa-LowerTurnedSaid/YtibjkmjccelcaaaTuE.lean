/- Layer 9: the sign of an order, as the statement counts it. -/
import Derived.Test.YtibjkmjccelcaaaTuP
import Derived.Test.YtibjkmjccelcaaaLW3
namespace Go.Proofs.Ytibjkmjccelcaaa
open Go.RowKit Fl Ieee
set_option maxRecDepth 20000
theorem ordL_len (o : Nat → Nat) (n : Nat) : (ordL o n).length = n := by simp [ordL]
theorem ordL_drop {o : Nat → Nat} {n i : Nat} (h : i < n) : (ordL o n).drop i = o i :: (ordL o n).drop (i + 1) := by
  rw [List.drop_eq_getElem_cons (by rw [ordL_len]; exact h)]
  congr 1
  simp [ordL]
theorem ordL_end {o : Nat → Nat} {n i : Nat} (h : n ≤ i) : (ordL o n).drop i = [] := List.drop_eq_nil_of_le (by rw [ordL_len]; exact h)
theorem ordV_at {o : Nat → Nat} {n i : Nat} (h : i < n) : (intsV ((List.range n).map fun i => ((o i : Nat) : Int)))[i]? = some (.int .i64 (o i : Nat)) := by simp [h]
theorem even_c (A : Option Addr) (o : Nat → Nat) (n cap : Nat) (W : World) (hn : n ≤ 64) (hrd : Reads W W.heap.size A (intsV ((List.range n).map fun i => ((o i : Nat) : Int)))) :
    Calls Try.prog 19 #[.slice A n cap] W fun e w' => e = .returned (.int .i64 (sgI (par (ordL o n)))) ∧ ∃ d, w' = W.drewN d := by
  have HR := Lib.hid hrd
  have HN := Lib.hid hn
  have hnb : (n : Int) ≤ 64 := by omega
  clear hrd hn
  go_enter Try.func19, Try.ntmps19
  go_wp2
  go_loopw [3, 4, 5] (fun s i _ wr => ∃ (k d : Nat) (b : Bool), k ≤ n ∧ i = .int .i64 (k : Nat) ∧ s = .int .i64 (sgI b) ∧ Hid (xor b (par ((ordL o n).drop k)) = par (ordL o n)) ∧ wr = W.drewN d) (fun _ i _ _ => n - (intOf i).toNat)
  case atStart => exact ⟨0, 0, false, Nat.zero_le _, rfl, rfl, Lib.hid (by simp), rfl⟩
  case round =>
    obtain ⟨k, d, b, hk, rfl, rfl, hb, rfl⟩ := hrel
    by_cases hlt : k < n
    · have hlti : (k : Int) < (n : Int) := Int.ofNat_lt.2 hlt
      obtain ⟨x, hx⟩ : ∃ x, x = o k := ⟨_, rfl⟩
      have hv : (intsV ((List.range n).map fun i => ((o i : Nat) : Int)))[k]? = some (.int .i64 (x : Nat)) := by rw [hx]; exact ordV_at hlt
      obtain ⟨ad, rfl, had, hc⟩ := HR.out.at_ hv
      have HX := Lib.hid hx
      have HB := hb
      clear hv hx hb had
      obtain ⟨V, hV⟩ : ∃ V, V = W.drewN d := ⟨_, rfl⟩
      have hcV : V.cell? (ad.add k) = some (.int .i64 (x : Nat)) := by rw [hV]; exact hc
      have HV := Lib.hid hV
      rw [← hV]
      clear hV hc
      go_wp2
      go_loopw [3, 5] (fun s j wx => ∃ (m e : Nat) (c : Bool), k + 1 ≤ m ∧ m ≤ n ∧ j = .int .i64 (m : Nat) ∧ s = .int .i64 (sgI c) ∧ Hid (xor c (xor (cnt x ((ordL o n).drop m)) (par ((ordL o n).drop (k + 1)))) = par (ordL o n)) ∧ wx = V.drewN e) (fun _ j _ => n - (intOf j).toNat)
      case atStart =>
        refine ⟨k + 1, 0, b, Nat.le_refl _, hlt, by go_num, rfl, Lib.hid ?_, rfl⟩
        have h := HB.out
        rw [ordL_drop hlt, ← HX.out] at h
        exact h
      case round =>
        obtain ⟨m, e, c, hm1, hm2, rfl, rfl, hc, rfl⟩ := hrel
        by_cases hltm : m < n
        · have hltmi : (m : Int) < (n : Int) := Int.ofNat_lt.2 hltm
          obtain ⟨y, hy⟩ : ∃ y, y = o m := ⟨_, rfl⟩
          have hv : (intsV ((List.range n).map fun i => ((o i : Nat) : Int)))[m]? = some (.int .i64 (y : Nat)) := by rw [hy]; exact ordV_at hltm
          obtain ⟨ad', e2, had, hc2⟩ := HR.out.at_ hv
          obtain rfl : ad = ad' := by simpa using e2
          have hcy : V.cell? (ad.add m) = some (.int .i64 (y : Nat)) := by rw [HV.out]; exact hc2
          have HC := Lib.hid (show xor (xor c (decide (y < x))) (xor (cnt x ((ordL o n).drop (m + 1))) (par ((ordL o n).drop (k + 1)))) = par (ordL o n) by
            have h := hc.out
            rw [ordL_drop hltm, ← hy] at h
            rw [← h]
            show _ = xor c (xor (xor (decide (y < x)) (cnt x _)) _)
            simp only [Bool.xor_assoc])
          clear hv e2 had hc2 hy hc
          by_cases hyx : y < x
          · have hyxi : (y : Int) < (x : Int) := Int.ofNat_lt.2 hyx
            rw [decide_eq_true hyx] at HC
            have hng : wrap64 (- sgI c) = sgI (!c) := by cases c <;> decide +kernel
            go_wp2
            go_quiet (fail)
            all_goals
              go_wp2
              go_roundw
              case rel => exact ⟨m + 1, _, !c, by omega, hltm, by go_num, by first | rfl | exact congrArg (Value.int .i64) hng, Lib.hid (by have := HC.out; rwa [Bool.xor_true] at this), by first | rfl | rw [World.drewN_drewN]⟩
              case measure => simp [intOf]; omega
          · have hyxi : ¬ (y : Int) < (x : Int) := by omega
            rw [decide_eq_false hyx] at HC
            go_wp2
            go_quiet (fail)
            all_goals
              go_wp2
              go_roundw
              case rel => exact ⟨m + 1, _, c, by omega, hltm, by go_num, rfl, Lib.hid (by have := HC.out; rwa [Bool.xor_false] at this), by first | rfl | rw [World.drewN_drewN]⟩
              case measure => simp [intOf]; omega
        · have e2 : n = m := by omega
          subst e2
          go_wp2
          go_roundw
          case rel =>
            refine ⟨k + 1, d + e, c, hlt, by go_num, rfl, Lib.hid ?_, by rw [HV.out, World.drewN_drewN]⟩
            have h := hc.out
            rw [ordL_end (Nat.le_refl _)] at h
            show xor c (par _) = _
            rw [← h]
            show xor c (par _) = xor c (xor false (par _))
            rw [Bool.false_xor]
          case measure => simp [intOf]; omega
    · have e : n = k := by omega
      subst e
      have e3 : b = par (ordL o n) := by
        have h := hb.out
        rw [ordL_end (Nat.le_refl _)] at h
        rw [← h]; show b = xor b false; rw [Bool.xor_false]
      clear hb
      subst e3
      go_wp2
      go_ret
      exact ⟨rfl, d, rfl⟩
end Go.Proofs.Ytibjkmjccelcaaa
