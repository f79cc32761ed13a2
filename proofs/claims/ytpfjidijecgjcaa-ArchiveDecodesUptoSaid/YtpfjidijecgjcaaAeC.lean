/- Layer 31: solutions compared. -/
import Derived.Test.YtpfjidijecgjcaaAeF
import Derived.Deep.DeepCutAuto
import Derived.Deep.RegionHeld3
import Derived.Deep.RegionLaw
namespace Go.Proofs.Ytpfjidijecgjcaa
open Go.RowKit Fl Ieee
set_option maxRecDepth 20000
attribute [local go_sem] run_store_float run_store_complex
theorem sNum_t (z : C) (w : World) : Calls Try.prog 76 #[.complex .f64 z.1 z.2, .complex .f64 z.1 z.2] w fun e w' => e = .returned (.bool true) ∧ w = w' := by
  have H1 := Lib.hid (fun V => kSameReal_c z.1 z.1 V)
  have H2 := Lib.hid (fun V => kSameReal_c z.2 z.2 V)
  rw [decide_eq_true rfl] at H1 H2
  go_enter Try.func76, Try.ntmps76
  go_wp2_with fail
  refine (H1.out _).mono ?_
  rintro e w' ⟨rfl, rfl⟩
  go_wp2_with fail
  refine (H2.out _).mono ?_
  rintro e w' ⟨rfl, rfl⟩
  go_wp2
  go_ret
  exact ⟨rfl, rfl⟩
set_option maxHeartbeats 1000000 in
theorem sNums_t (A B : Option Addr) (l : List C) (n c c' : Nat) (w : World) (hn : n = l.length) (hmax : n ≤ 4611686018427387904)
    (hA : Reads w w.heap.size A (nums l)) (hB : Reads w w.heap.size B (nums l)) :
    Calls Try.prog 66 #[.slice A n c, .slice B n c'] w (RetB true w) := by
  have HA := Lib.hid hA
  have HB := Lib.hid hB
  have HN := Lib.hid hn
  clear hA hB hn
  go_enter Try.func66, Try.ntmps66
  go_wp2
  go_loopw [5] (fun i wr => ∃ k d : Nat, k ≤ n ∧ i = .int .i64 (k : Nat) ∧ wr = w.drewN d) (fun i _ => n - (intOf i).toNat)
  case atStart => exact ⟨0, 0, Nat.zero_le _, rfl, rfl⟩
  case round =>
    obtain ⟨k, d, hk, rfl, rfl⟩ := hrel
    by_cases hlt : k < n
    · obtain ⟨x, hx⟩ := some_of_lt (l := l) (k := k) (by rw [← HN.out]; exact hlt)
      have hxv : (nums l)[k]? = some (.complex .f64 x.1 x.2) := by simp [nums, hx]
      obtain ⟨ad, rfl, _, hc1⟩ := HA.out.at_ hxv
      obtain ⟨bd, rfl, _, hc2⟩ := HB.out.at_ hxv
      have HS := Lib.hid (sNum_t x)
      clear hx hxv
      go_wp2
      go_quiet ((go_at_call 76; exact quiet_add_left (HS.out _)))
      go_wp2
      go_roundw
      case rel => exact ⟨k + 1, _, by omega, by go_num, rfl⟩
      case measure => simp [intOf]; omega
    · go_wp2
      go_ret
      exact closeB rfl
theorem sSol_t (om : Nat) (A1 A2 B1 B2 : Option Addr) (l m : List C) (p q c1 c2 d1 d2 : Nat) (w : World) (hp : p = l.length) (hq : q = m.length) (hp4 : p ≤ 1000) (hq4 : q ≤ 1000)
    (h1 : Reads w w.heap.size A1 (nums l)) (h2 : Reads w w.heap.size A2 (nums m)) (g1 : Reads w w.heap.size B1 (nums l)) (g2 : Reads w w.heap.size B2 (nums m)) :
    Calls Try.prog 26 #[.agg #[.float .f64 om, .slice A1 p c1, .slice A2 q c2], .agg #[.float .f64 om, .slice B1 p d1, .slice B2 q d2]] w fun e w' => e = .returned (.bool true) ∧ Below w.heap.size w w' := by
  obtain ⟨X, hX⟩ : ∃ X, X = (w.alloc (.cells #[.float .f64 om, .slice A1 p c1, .slice A2 q c2] 39)).alloc (.cells #[.float .f64 om, .slice B1 p d1, .slice B2 q d2] 39) := ⟨_, rfl⟩
  have hbX : Below w.heap.size w X := by rw [hX]; exact (below_new _ _).new (Nat.le_refl _) _
  have hx : X.heap[w.heap.size]? = some (.cells #[.float .f64 om, .slice A1 p c1, .slice A2 q c2] 39) := by
    rw [hX, heap_alloc_old _ _ (by simp), heap_alloc_new]
  have hy : X.heap[w.heap.size + 1]? = some (.cells #[.float .f64 om, .slice B1 p d1, .slice B2 q d2] 39) := by
    rw [hX, ← heap_alloc_new (w.alloc (.cells #[.float .f64 om, .slice A1 p c1, .slice A2 q c2] 39)) (.cells #[.float .f64 om, .slice B1 p d1, .slice B2 q d2] 39)]
    simp
  have x0 : X.cell? ⟨w.heap.size, 0, none⟩ = some (.float .f64 om) := by rw [cell_of_row _ _ 0 _ _ _ hx]; rfl
  have x1 : X.cell? ⟨w.heap.size, 1, none⟩ = some (.slice A1 p c1) := by rw [cell_of_row _ _ 1 _ _ _ hx]; rfl
  have x2 : X.cell? ⟨w.heap.size, 2, none⟩ = some (.slice A2 q c2) := by rw [cell_of_row _ _ 2 _ _ _ hx]; rfl
  have y0 : X.cell? ⟨w.heap.size + 1, 0, none⟩ = some (.float .f64 om) := by rw [cell_of_row _ _ 0 _ _ _ hy]; rfl
  have y1 : X.cell? ⟨w.heap.size + 1, 1, none⟩ = some (.slice B1 p d1) := by rw [cell_of_row _ _ 1 _ _ _ hy]; rfl
  have y2 : X.cell? ⟨w.heap.size + 1, 2, none⟩ = some (.slice B2 q d2) := by rw [cell_of_row _ _ 2 _ _ _ hy]; rfl
  have HR := Lib.hid (fun V => kSameReal_c om om V)
  rw [decide_eq_true rfl] at HR
  have HN1 := Lib.hid (fun d => sNums_t A1 B1 l p c1 d1 (X.drewN d) hp (by omega) ((h1.below hbX).more hbX.size) ((g1.below hbX).more hbX.size))
  have HN2 := Lib.hid (fun d => sNums_t A2 B2 m q c2 d2 (X.drewN d) hq (by omega) ((h2.below hbX).more hbX.size) ((g2.below hbX).more hbX.size))
  have HB := Lib.hid hbX
  clear hbX hx hy hp hq h1 h2 g1 g2
  go_enter Try.func26, Try.ntmps26
  go_upto_region 1 with fail
  rw [← hX]
  clear hX
  go_wp2_with fail
  refine (HR.out _).mono ?_
  rintro e w' ⟨rfl, rfl⟩
  go_wp2_with fail
  refine (HN1.out 0).mono ?_
  rintro e w' ⟨e1, rfl, rfl⟩
  rw [World.drewN_drewN]
  go_wp2_with fail
  refine (HN2.out _).mono ?_
  rintro e w' ⟨e2, rfl, rfl⟩
  rw [World.drewN_drewN]
  go_wp2
  go_ret
  exact ⟨rfl, below_drewN HB.out _⟩
set_option maxHeartbeats 4000000 in
theorem sAll_t (S : List SolM) (v v' : Value) (w : World) (h : SolsAt w w.heap.size v S) (h' : SolsAt w w.heap.size v' S) (hn : S.length ≤ 1000000) (hl : ∀ s ∈ S, s.vs.length ≤ 1000 ∧ s.ys.length ≤ 1000) :
    Calls Try.prog 11 #[v, v'] w fun e w' => e = .returned (.bool true) ∧ Below w.heap.size w w' := by
  have HS := Lib.hid h
  have HS' := Lib.hid h'
  obtain ⟨A, c, rfl, -⟩ := h
  obtain ⟨A', c', rfl, -⟩ := h'
  obtain ⟨n, hN⟩ : ∃ n, n = S.length := ⟨_, rfl⟩
  rw [← hN] at HS HS' hn ⊢
  have HN := Lib.hid hN
  have HLl := Lib.hid hl
  clear hN hl
  go_enter Try.func11, Try.ntmps11
  go_wp2
  go_loopw [5] (fun iv wr => ∃ i : Nat, i ≤ n ∧ iv = .int .i64 (i : Nat) ∧ Hid (Below w.heap.size w wr)) (fun iv _ => n - (intOf iv).toNat)
  case atStart => exact ⟨0, Nat.zero_le _, rfl, Lib.hid (Below.refl _ _)⟩
  case round =>
    obtain ⟨i, hi, rfl, HB⟩ := hrel
    rename World => wr
    by_cases hin : i < n
    · have hin' : (i : Int) < n := by omega
      obtain ⟨s, hs⟩ := some_of_lt (l := S) (k := i) (by rw [← HN.out]; exact hin)
      obtain ⟨g, x1, x2, hA, hlt, h0, h1, h2, h3⟩ := HS.out.at_ hs
      subst hA
      obtain ⟨A1, c1, A2, c2, rfl, rfl, h4, h5, -, -⟩ := h3
      obtain ⟨g', y1, y2, hA', hlt', g0, g1, g2, g3⟩ := HS'.out.at_ hs
      subst hA'
      obtain ⟨B1, d1, B2, d2, rfl, rfl, g4, g5, -, -⟩ := g3
      obtain ⟨p, hp⟩ : ∃ p, p = s.vs.length := ⟨_, rfl⟩
      obtain ⟨q, hq⟩ : ∃ q, q = s.ys.length := ⟨_, rfl⟩
      have hpq := HLl.out s (List.mem_of_getElem? hs)
      rw [← hp, ← hq] at hpq
      rw [← hp] at h1 g1
      rw [← hq] at h2 g2
      have HSo := Lib.hid (fun V (hV : Below w.heap.size w V) => sSol_t s.om A1 A2 B1 B2 s.vs s.ys p q c1 c2 d1 d2 V hp hq hpq.1 hpq.2 ((h4.below hV).more hV.size) ((h5.below hV).more hV.size) ((g4.below hV).more hV.size) ((g5.below hV).more hV.size))
      have HCl := Lib.hid (fun V (hV : Below w.heap.size w V) => (show V.cell? ⟨g, i * 3, none⟩ = some (.float .f64 s.om) ∧ V.cell? ⟨g, i * 3 + 1, none⟩ = some (.slice A1 p c1) ∧ V.cell? ⟨g, i * 3 + 2, none⟩ = some (.slice A2 q c2) ∧ V.cell? ⟨g', i * 3, none⟩ = some (.float .f64 s.om) ∧ V.cell? ⟨g', i * 3 + 1, none⟩ = some (.slice B1 p d1) ∧ V.cell? ⟨g', i * 3 + 2, none⟩ = some (.slice B2 q d2) from
        ⟨(hV.cell (p := ⟨g, i * 3, none⟩) hlt).trans h0, (hV.cell (p := ⟨g, i * 3 + 1, none⟩) hlt).trans h1, (hV.cell (p := ⟨g, i * 3 + 2, none⟩) hlt).trans h2, (hV.cell (p := ⟨g', i * 3, none⟩) hlt').trans g0, (hV.cell (p := ⟨g', i * 3 + 1, none⟩) hlt').trans g1, (hV.cell (p := ⟨g', i * 3 + 2, none⟩) hlt').trans g2⟩))
      clear hi hs h0 h1 h2 h4 h5 g0 g1 g2 g4 g5 hlt hlt' hp hq hpq
      go_upto_region 6 with fail
      refine wp_region_noPanic ?_
      refine wp_region_held_drew (S := fun V => Below w.heap.size w V) (by kernel_rfl) HB.out.drew (fun hS0 => ?_)
      refine wpAnyH_take (i := 0) (v := ?vva0) rfl (by kernel_rfl) (by kernel_rfl) (by kernel_rfl) (fun _ _ _ h => h) (Or.inl ⟨rfl, ?yya0⟩) hS0 ?_
      case yya0 => (intro w' hSw; (try dsimp only at hSw); obtain ⟨q0, q1, q2, q3, q4, q5⟩ := HCl.out w' hSw; first | (go_simp; done) | (go_simp; with_reducible rfl) | kernel_rfl)
      simp only [Act.put]
      refine wpAnyH_take (i := 1) (v := ?vva1) rfl (by kernel_rfl) (by kernel_rfl) (by kernel_rfl) (fun _ _ _ h => h) (Or.inl ⟨rfl, ?yya1⟩) hS0 ?_
      case yya1 => (intro w' hSw; (try dsimp only at hSw); obtain ⟨q0, q1, q2, q3, q4, q5⟩ := HCl.out w' hSw; first | (go_simp; done) | (go_simp; with_reducible rfl) | kernel_rfl)
      simp only [Act.put]
      refine wpAnyH_take (i := 2) (v := ?vva2) rfl (by kernel_rfl) (by kernel_rfl) (by kernel_rfl) (fun _ _ _ h => h) (Or.inl ⟨rfl, ?yya2⟩) hS0 ?_
      case yya2 => (intro w' hSw; (try dsimp only at hSw); obtain ⟨q0, q1, q2, q3, q4, q5⟩ := HCl.out w' hSw; first | (go_simp; done) | (go_simp; with_reducible rfl) | kernel_rfl)
      simp only [Act.put]
      refine wpAnyH_take (i := 3) (v := ?vva3) rfl (by kernel_rfl) (by kernel_rfl) (by kernel_rfl) (fun _ _ _ h => h) (Or.inl ⟨rfl, ?yya3⟩) hS0 ?_
      case yya3 => (intro w' hSw; (try dsimp only at hSw); obtain ⟨q0, q1, q2, q3, q4, q5⟩ := HCl.out w' hSw; first | (go_simp; done) | (go_simp; with_reducible rfl) | kernel_rfl)
      simp only [Act.put]
      refine wpAnyH_take (i := 4) (v := ?vva4) rfl (by kernel_rfl) (by kernel_rfl) (by kernel_rfl) (fun _ _ _ h => h) (Or.inl ⟨rfl, ?yya4⟩) hS0 ?_
      case yya4 => (intro w' hSw; (try dsimp only at hSw); obtain ⟨q0, q1, q2, q3, q4, q5⟩ := HCl.out w' hSw; first | (go_simp; done) | (go_simp; with_reducible rfl) | kernel_rfl)
      simp only [Act.put]
      refine wpAnyH_take (i := 5) (v := ?vva5) rfl (by kernel_rfl) (by kernel_rfl) (by kernel_rfl) (fun _ _ _ h => h) (Or.inl ⟨rfl, ?yya5⟩) hS0 ?_
      case yya5 => (intro w' hSw; (try dsimp only at hSw); obtain ⟨q0, q1, q2, q3, q4, q5⟩ := HCl.out w' hSw; first | (go_simp; done) | (go_simp; with_reducible rfl) | kernel_rfl)
      simp only [Act.put]
      refine wpAnyH_take (i := 6) (v := ?vva6) rfl (by kernel_rfl) (by kernel_rfl) (by kernel_rfl) (fun _ _ _ h => h) (Or.inl ⟨rfl, ?yya6⟩) hS0 ?_
      case yya6 => (intro w' hSw; (try dsimp only at hSw); obtain ⟨q0, q1, q2, q3, q4, q5⟩ := HCl.out w' hSw; first | (go_simp; done) | (go_simp; with_reducible rfl) | kernel_rfl)
      simp only [Act.put]
      refine wpAnyH_take (i := 7) (v := ?vva7) rfl (by kernel_rfl) (by kernel_rfl) (by kernel_rfl) (fun _ _ _ h => h) (Or.inl ⟨rfl, ?yya7⟩) hS0 ?_
      case yya7 => (intro w' hSw; (try dsimp only at hSw); obtain ⟨q0, q1, q2, q3, q4, q5⟩ := HCl.out w' hSw; first | (go_simp; done) | (go_simp; with_reducible rfl) | kernel_rfl)
      simp only [Act.put]
      refine wpAnyH_ready (rs := [8]) (by kernel_rfl) (by simp) ?_
      refine AllReadyH.cons rfl (fun K hK => ?_) AllReadyH.nil
      go_simp
      refine (HSo.out _ hS0).mono ?_
      rintro e W1 ⟨rfl, hb1⟩
      have hb2 : Below w.heap.size w W1 := hS0.trans (hb1.mono hS0.size)
      refine hK.out _ _ hb2 (fun hS1 => ?_)
      clear hK K
      refine wpAnyH_take (i := 9) (v := ?vvb9) rfl (by kernel_rfl) (by kernel_rfl) (by kernel_rfl) (fun _ _ _ h => h) (Or.inl ⟨rfl, ?yyb9⟩) hS1 ?_
      case yyb9 => (intro w' hSw; (try dsimp only at hSw); first | (go_simp; done) | (go_simp; with_reducible rfl) | kernel_rfl)
      go_simp
      refine wpAnyH_done (by kernel_rfl) ?_ _
      refine NoPanic.normal ?_
      have HB2 := Lib.hid hb2
      clear hb1 hb2 hS0 hS1
      go_wp2
      go_roundw
      case rel => exact ⟨i + 1, hin, by go_num, HB2⟩
      case measure => simp [intOf]; omega
    · have e : i = n := by omega
      subst e
      clear hi
      go_wp2
      go_ret
      exact ⟨rfl, HB.out⟩
end Go.Proofs.Ytpfjidijecgjcaa
