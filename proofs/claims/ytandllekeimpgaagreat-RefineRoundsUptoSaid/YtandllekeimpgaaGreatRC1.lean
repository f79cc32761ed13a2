/- Layer 9, the document's answer: a column ((*gridworkref09.Lower).column). -/
import Derived.Test.YtandllekeimpgaaGreatRegQ
import Derived.Test.YtandllekeimpgaaGreatReg
import Derived.Test.YtandllekeimpgaaGreatMX1
import Derived.Deep.RegionHeld3
import Derived.Deep.DeepCutAuto
import Derived.Deep.CutBlock
import Derived.StillTailTactics
import Derived.BigRegion
namespace Go.Proofs.YtandllekeimpgaaGreat
open Go.RowKit Fl Ieee
set_option maxRecDepth 20000
attribute [local go_sem] run_store_float run_store_complex Fl.order_self Fl.order_self' Fl.order_eq Fl.order_ne Fl.order_lt Fl.order_gt
theorem rowGe.heap {W V : World} {b n : Nat} {t : TypeId} {f : Nat → Value} (h : rowGe W b t n f) (e : V.heap = W.heap) : rowGe V b t n f := h.of_block (by rw [e])
theorem Tab.heap {W V : World} {B q p n : Nat} {g c : Nat → Nat} {Z : Mat} {o : Nat → Nat} (h : Tab W B q p n g c Z o) (e : V.heap = W.heap) : Tab V B q p n g c Z o :=
  { h with rows := h.rows.heap e, ord := h.ord.heap e, row := fun i hi => (h.row i hi).heap e }
theorem box6 {w : World} {b : Nat} {x y z u v s : Value} {t : TypeId} (hx : w.heap[b]? = some (.cells #[x, y, z, u, v, s] t)) :
    w.cell? ⟨b, 0, none⟩ = some x ∧ w.cell? ⟨b, 1, none⟩ = some y ∧ w.cell? ⟨b, 2, none⟩ = some z ∧ w.cell? ⟨b, 3, none⟩ = some u ∧ w.cell? ⟨b, 4, none⟩ = some v ∧ w.cell? ⟨b, 5, none⟩ = some s ∧ (∀ j, w.frozen? ⟨b, j, none⟩ = false) := by
  refine ⟨?_, ?_, ?_, ?_, ?_, ?_, fun j => frozen_of_row w b j _ _ hx⟩
  · rw [cell_of_row w b 0 _ _ _ hx]; rfl
  · rw [cell_of_row w b 1 _ _ _ hx]; rfl
  · rw [cell_of_row w b 2 _ _ _ hx]; rfl
  · rw [cell_of_row w b 3 _ _ _ hx]; rfl
  · rw [cell_of_row w b 4 _ _ _ hx]; rfl
  · rw [cell_of_row w b 5 _ _ _ hx]; rfl
/-- What the document eliminates: its cell, and its table. -/
structure rLo (W : World) (B b q p n qc pc : Nat) (g c : Nat → Nat) (S : El) (ti : Bool) : Prop where
  box : W.heap[b]? = some (.cells #[.int .i64 (n : Nat), .slice (some ⟨q, 0, none⟩) n qc, .slice (some ⟨p, 0, none⟩) n pc, .bool S.s, .bool ti, .bool true] 81)
  tab : Tab W B q p n g c S.E S.o
  bB : B ≤ b
  bq : b ≠ q
  bp : b ≠ p
  bg : ∀ i, i < n → g i ≠ b
namespace rLo
variable {W V : World} {B b q p n qc pc : Nat} {g c : Nat → Nat} {S : El} {ti : Bool}
theorem below (h : rLo W B b q p n qc pc g c S ti) (hb : Below W.heap.size W V) : rLo V B b q p n qc pc g c S ti :=
  { h with
    box := (hb.block b (row_lt' h.box)).trans h.box
    tab := h.tab.below hb }
theorem heap (h : rLo W B b q p n qc pc g c S ti) (e : V.heap = W.heap) : rLo V B b q p n qc pc g c S ti :=
  { h with
    box := by rw [e]; exact h.box
    tab := h.tab.heap e }
theorem lt (h : rLo W B b q p n qc pc g c S ti) : b < W.heap.size := row_lt' h.box
theorem set {i j : Nat} {z : C} {Z : Mat} {o : Nat → Nat} {s : Bool} (h : rLo W B b q p n qc pc g c ⟨Z, o, s⟩ ti) (hi : i < n) (hj : j < n) (hz : ltC z) : rLo (W.setCell ⟨g i, j, none⟩ (.complex .f64 z.1 z.2)) B b q p n qc pc g c ⟨upd Z i j z, o, s⟩ ti :=
  { h with
    box := (Below.heap_setCell _ _ _ _ (fun e => h.bg i hi e.symm)).trans h.box
    tab := h.tab.set hi hj hz }
theorem tie (h : rLo W B b q p n qc pc g c S ti) : rLo (W.setCell ⟨b, 4, none⟩ (.bool true)) B b q p n qc pc g c S true :=
  { h with
    box := by rw [heap_setCell_same _ b 4 _ _ _ h.box]; rfl
    tab := h.tab.setOther (fun e => h.bq e.symm) (fun e => h.bp e.symm) (fun i hi => h.bg i hi) _ }
/-- Rows v and k are changed, v another than k. -/
theorem swap {k v : Nat} (h : rLo W B b q p n qc pc g c S ti) (hk : k < n) (hv : v < n) (hne : v ≠ k) :
    rLo (((((W.setCell ⟨q, v, none⟩ (.slice (some ⟨g k, 0, none⟩) n (c k))).setCell ⟨q, k, none⟩ (.slice (some ⟨g v, 0, none⟩) n (c v))).setCell ⟨p, v, none⟩ (.int .i64 (S.o k : Nat))).setCell ⟨p, k, none⟩ (.int .i64 (S.o v : Nat))).setCell ⟨b, 3, none⟩ (.bool (!S.s)))
      B b q p n qc pc (fun i => g (xch v k i)) (fun i => c (xch v k i)) (elSwap k v S) ti where
  box := by
    have e1 : ((((W.setCell ⟨q, v, none⟩ (.slice (some ⟨g k, 0, none⟩) n (c k))).setCell ⟨q, k, none⟩ (.slice (some ⟨g v, 0, none⟩) n (c v))).setCell ⟨p, v, none⟩ (.int .i64 (S.o k : Nat))).setCell ⟨p, k, none⟩ (.int .i64 (S.o v : Nat))).heap[b]? = some (.cells #[.int .i64 (n : Nat), .slice (some ⟨q, 0, none⟩) n qc, .slice (some ⟨p, 0, none⟩) n pc, .bool S.s, .bool ti, .bool true] 81) := by
      rw [Below.heap_setCell _ _ _ _ h.bp, Below.heap_setCell _ _ _ _ h.bp, Below.heap_setCell _ _ _ _ h.bq, Below.heap_setCell _ _ _ _ h.bq]
      exact h.box
    rw [heap_setCell_same _ b 3 _ _ _ e1]
    have e2 : (elSwap k v S).s = !S.s := by unfold elSwap; rw [if_neg hne]
    rw [e2]; rfl
  tab := by
    have h1 := (h.tab.swap hv hk).setOther (a := ⟨b, 3, none⟩) (fun e => h.bq e.symm) (fun e => h.bp e.symm) (fun i hi => h.bg _ (xch_lt hv hk hi)) (.bool (!S.s))
    have e1 : (elSwap k v S).E = fun i => S.E (xch v k i) := by
      unfold elSwap; funext i; show S.E (xch k v i) = _; rw [xch_comm]
    have e2 : (elSwap k v S).o = fun i => S.o (xch v k i) := by
      unfold elSwap; funext i; show S.o (xch k v i) = _; rw [xch_comm]
    rw [e1, e2]; exact h1
  bB := h.bB
  bq := h.bq
  bp := h.bp
  bg i hi := h.bg _ (xch_lt hv hk hi)
theorem same {k : Nat} (h : rLo W B b q p n qc pc g c S ti) : rLo W B b q p n qc pc g c (elSwap k k S) ti := by
  have e : elSwap k k S = S := by
    unfold elSwap
    rw [if_pos rfl, show (fun i => S.E (xch k k i)) = S.E from funext fun i => by rw [xch_self], show (fun i => S.o (xch k k i)) = S.o from funext fun i => by rw [xch_self]]
  rw [e]; exact h
end rLo
def bestI : Option Nat → Int
  | none => -1
  | some p => (p : Nat)
theorem refPiv_bounds {col : Nat → C} {k : Nat} : ∀ m p, refPiv col k m = some p → k ≤ p ∧ p < k + m
  | 0, p, h => by cases h
  | m + 1, p, h => by
    unfold refPiv at h
    split at h
    · have := refPiv_bounds m p h; omega
    · split at h
      · injection h with h; omega
      · rename_i b hb
        have := refPiv_bounds m b hb
        split at h
        · injection h with h; omega
        · injection h with h; omega
def BestR (col : Nat → C) (k n : Nat) (w : World) (bv iv : Value) (wr : World) : Prop :=
  ∃ m d : Nat, k + m ≤ n ∧ iv = .int .i64 ((k + m : Nat) : Int) ∧ bv = .int .i64 (bestI (refPiv col k m)) ∧ wr = w.drewN d
/-- No two of the sizes in column k that were held against each other are one. -/
def NoTie (n k : Nat) (S : El) : Prop := ∀ i j, k ≤ i → i < j → j < n → feq .f64 (pSize1 (S.E i k)) (pSize1 (S.E j k)) = false
def TieTo (n k i j : Nat) (S : El) : Prop := (∀ a b, k ≤ a → a < i → a < b → b < n → feq .f64 (pSize1 (S.E a k)) (pSize1 (S.E b k)) = false) ∧ (∀ b, i < b → b < j → b < n → feq .f64 (pSize1 (S.E i k)) (pSize1 (S.E b k)) = false)
def RelC2 (B b q p n qc pc k : Nat) (g c : Nat → Nat) (S : El) (ti : Bool) (w : World) (fv iv : Value) (wr : World) : Prop :=
  ∃ (i : Nat) (Z : Mat), k < i ∧ i ≤ n ∧ iv = .int .i64 (i : Nat) ∧ fv = .bool (!fineTo (elE S.E k) n k (i - (k + 1))) ∧ rLo wr B b q p n qc pc g c ⟨Z, S.o, S.s⟩ ti ∧ ElimR S.E Z n k i ∧ Below B w wr
def RelC3 (B b q p n qc pc k i : Nat) (g c : Nat → Nat) (S : El) (ti : Bool) (f0 : Bool) (w : World) (fv jv : Value) (wr : World) : Prop :=
  ∃ (j : Nat) (Z : Mat), k < j ∧ j ≤ n ∧ jv = .int .i64 (j : Nat) ∧ fv = .bool (!(f0 && fineRow (elE S.E k) k i (j - (k + 1)))) ∧ rLo wr B b q p n qc pc g c ⟨Z, S.o, S.s⟩ ti ∧ RowR S.E Z n k i j ∧ Below B w wr
def PutC (B b q p n qc pc : Nat) (g c : Nat → Nat) (S : El) (Z : Mat) (ti : Bool) (k i j : Nat) (w wx : World) : Prop :=
  ∃ z : C, cnC z = elE S.E k i j ∧ ltC z ∧ rLo wx B b q p n qc pc g c ⟨upd Z i j z, S.o, S.s⟩ ti ∧ Below B w wx
def RetCol (n k B b q p qc pc : Nat) (S : El) (ti : Bool) (w : World) (e : Ending) (w' : World) : Prop :=
  e = .returned (.int .i64 (elErr n k S)) ∧ Below B w w' ∧ (elErr n k S = 0 → ∃ g c ti', rLo w' B b q p n qc pc g c (elStep n k S) ti' ∧ (ti' = false → ti = false ∧ NoTie n k S))
/-- A tail's statement, kept from the tactics. -/
structure Tail9 (P : Prop) : Prop where
  out : P
set_option linter.unusedSimpArgs false in
set_option maxHeartbeats 64000000 in
noncomputable def colA9 (B b q p n qc pc k : Nat) (g c : Nat → Nat) (S : El) (ti : Bool) (w : World) :
    { P : Prop // Tail9 P → n ≤ 64 → k < n → rLo w B b q p n qc pc g c S ti → finTo S.E n → B ≤ w.heap.size → Calls Tryz.prog 42 #[.pointer (some ⟨b, 0, none⟩), .int .i64 (k : Nat)] w (RetCol n k B b q p qc pc S ti w) } := by
  refine ⟨?P, fun hP hn hk hL hf hB => ?_⟩
  rotate_left 1
  · skip
    have HL := Lib.hid hL
    have HF := Lib.hid hf
    have HB := Lib.hid hB
    have HN := Lib.hid hn
    have hki : (k : Int) < (n : Int) := Int.ofNat_lt.2 hk
    obtain ⟨x0, x1, -, -, -, -, -⟩ := box6 hL.box
    have HX1 := Lib.hid x1
    have HX0 := Lib.hid x0
    clear hL hf hB hn x1
    go_enter Tryz.func42, Tryz.ntmps42
    go_upto_block 0 with fail
    go_cut [5, 6] (fun bv _ wx => bv = .int .i64 (bestI (refPiv (fun i => S.E i k) k (n - k))) ∧ ∃ d, wx = w.drewN d)
    case first =>
      go_wp2_with fail
      go_loopw [5, 6] (fun bv iv wr => BestR (fun i => S.E i k) k n w bv iv wr) (fun _ iv _ => n - (intOf iv).toNat)
      case atStart => exact ⟨0, 0, by omega, by simp, rfl, rfl⟩
      case round =>
        obtain ⟨m, d, hm, rfl, rfl, hwr⟩ := hrel
        have HW := Lib.hid hwr
        clear hwr
        obtain ⟨i, hi⟩ : ∃ i, i = k + m := ⟨_, rfl⟩
        rw [← hi]
        have hin : i ≤ n := by omega
        have hib : (i : Int) + 1 ≤ 65 := by have := HN.out; omega
        have HI := Lib.hid hi
        have HLw := Lib.hid (show rLo wr B b q p n qc pc g c S ti from HL.out.heap (by rw [HW.out]; rfl))
        obtain ⟨y0, y1, -, -, -, -, -⟩ := box6 HLw.out.box
        clear hi hm
        by_cases hlt : i < n
        · have hlti : (i : Int) < (n : Int) := Int.ofNat_lt.2 hlt
          have yi := HLw.out.tab.cellS hlt
          have zi := HLw.out.tab.cellZ hlt hk
          obtain ⟨z, hz⟩ : ∃ z, z = S.E i k := ⟨_, rfl⟩
          rw [← hz] at zi
          have HZ := Lib.hid hz
          clear hz
          have fz : pFinite z = true := by rw [HZ.out]; exact HF.out i k hlt hk
          have lz : ltC z := by rw [HZ.out]; exact HL.out.tab.lt i k hlt hk
          have FZ := Lib.hid fz
          have LZ := Lib.hid lz
          have HI1 := Lib.hid (show k + (m + 1) = i + 1 by have := HI.out; omega)
          cases hz0 : pZero z
          · have hzb : (feq .f64 z.1 0 && feq .f64 z.2 0) = false := hz0
            have HZ0 := Lib.hid hz0
            clear fz lz hz0
            cases hp : refPiv (fun i => S.E i k) k m with
            | none =>
              have HP := Lib.hid hp
              have hbi : bestI none = -1 := rfl
              rw [hbi]
              clear hp hbi
              go_wp2
              go_quiet (fail)
              go_wp2
              go_roundw
              case rel =>
                refine ⟨m + 1, _, by rw [HI1.out]; omega, by rw [HI1.out]; go_num, ?_, by rw [HW.out, World.drewN_drewN]⟩
                rw [refPiv, HP.out, ← HI.out, ← HZ.out, HZ0.out]; rfl
              case measure => simp [intOf]; omega
            | some p =>
              have HP := Lib.hid hp
              have hpb := refPiv_bounds m p hp
              have hpn : p < n := by have := HI.out; omega
              have hpi : (p : Int) < (n : Int) := Int.ofNat_lt.2 hpn
              have hp0 : decide ((p : Int) < 0) = false := by simp
              have hbi : bestI (some p) = (p : Int) := rfl
              rw [hbi]
              obtain ⟨u, hu⟩ : ∃ u, u = S.E p k := ⟨_, rfl⟩
              have fu : pFinite u = true := by rw [hu]; exact HF.out p k hpn hk
              have lu : ltC u := by rw [hu]; exact HL.out.tab.lt p k hpn hk
              have hy1 : ∀ D, (wr.drewN D).cell? ⟨b, 1, none⟩ = some (.slice (some ⟨q, 0, none⟩) n qc) := fun _ => y1
              have hyi : ∀ D, (wr.drewN D).cell? ⟨q, i, none⟩ = some (.slice (some ⟨g i, 0, none⟩) n (c i)) := fun _ => yi
              have hzi : ∀ D, (wr.drewN D).cell? ⟨g i, k, none⟩ = some (.complex .f64 z.1 z.2) := fun _ => zi
              have hyp : ∀ D, (wr.drewN D).cell? ⟨q, p, none⟩ = some (.slice (some ⟨g p, 0, none⟩) n (c p)) := fun _ => HLw.out.tab.cellS hpn
              have hzp : ∀ D, (wr.drewN D).cell? ⟨g p, k, none⟩ = some (.complex .f64 u.1 u.2) := fun _ => by rw [hu]; exact HLw.out.tab.cellZ hpn hk
              have HU := Lib.hid hu
              have fz := FZ.out
              have lz := LZ.out
              obtain ⟨sw, hsw⟩ : ∃ sw, flt .f64 (pSize1 u) (pSize1 z) = sw := ⟨_, rfl⟩
              have HSw := Lib.hid hsw
              clear hp hbi hpb hu
              cases sw
              · go_wp2
                go_quiet ((go_at_call 74; (with_reducible refine quiet_drew' (rSize1_x _ ?_ ?_ _)) <;> assumption))
                clear hsw hy1 hyi hzi hyp hzp
                go_wp2
                go_roundw
                case rel =>
                  refine ⟨m + 1, _, by rw [HI1.out]; omega, by rw [HI1.out]; go_num, ?_, by rw [HW.out, World.drewN_drewN]⟩
                  rw [refPiv, HP.out, ← HI.out, ← HZ.out, HZ0.out]
                  show _ = Value.int .i64 (bestI (if flt .f64 (pSize1 (S.E p k)) (pSize1 z) = true then some i else some p))
                  rw [← HU.out, HSw.out]; rfl
                case measure => simp [intOf]; omega
              · go_wp2
                go_quiet ((go_at_call 74; (with_reducible refine quiet_drew' (rSize1_x _ ?_ ?_ _)) <;> assumption))
                clear hsw hy1 hyi hzi hyp hzp
                go_wp2
                go_roundw
                case rel =>
                  refine ⟨m + 1, _, by rw [HI1.out]; omega, by rw [HI1.out]; go_num, ?_, by rw [HW.out, World.drewN_drewN]⟩
                  rw [refPiv, HP.out, ← HI.out, ← HZ.out, HZ0.out]
                  show _ = Value.int .i64 (bestI (if flt .f64 (pSize1 (S.E p k)) (pSize1 z) = true then some i else some p))
                  rw [← HU.out, HSw.out]; rfl
                case measure => simp [intOf]; omega
          · have hzb : (feq .f64 z.1 0 && feq .f64 z.2 0) = true := hz0
            have HZ0 := Lib.hid hz0
            clear fz lz hz0
            go_wp2
            go_roundw
            case rel =>
              refine ⟨m + 1, d, by rw [HI1.out]; omega, by rw [HI1.out]; go_num, ?_, HW.out⟩
              rw [refPiv, ← HI.out, ← HZ.out, HZ0.out]; rfl
            case measure => simp [intOf]; omega
        · have e : i = n := by omega
          have hm2 : n - k = m := by have := HI.out; omega
          have HM2 := Lib.hid hm2
          clear hm2
          go_wp2
          go_meet
          case rel => exact ⟨by rw [HM2.out], d, HW.out⟩
    case rest =>
      obtain ⟨rfl, d, hwc⟩ := hcut
      rename World => W1
      have HL1 := Lib.hid (show rLo W1 B b q p n qc pc g c S ti from HL.out.heap (by rw [hwc]; rfl))
      have HB1 := Lib.hid (show Below B w W1 by rw [hwc]; exact below_drewN (Below.refl _ _) _)
      obtain ⟨nl, hnl⟩ : ∃ x, nilUp (fun i => S.E i k) k (n - k) = x := ⟨_, rfl⟩
      obtain ⟨v, hv⟩ : ∃ x, pivUp (fun i => S.E i k) k (n - k) = x := ⟨_, rfl⟩
      have hrp := refPiv_eq (col := fun i => S.E i k) (k := k) (n - k) (fun i _ hi => HF.out i k (by omega) hk) (fun _ => HF.out k k hk hk)
      rw [hnl, hv] at hrp
      rw [hrp]
      have HNl := Lib.hid hnl
      have HV := Lib.hid hv
      clear hwc hnl hv hrp HL HX0 HX1 x0
      cases nl
      · have hbi : bestI (if false = true then none else some v) = (v : Int) := rfl
        rw [hbi]
        have hvn : v < n := by rw [← HV.out]; exact pivUp_lt _ hk
        have hkv : k ≤ v := by rw [← HV.out]; exact (pivUp_bounds _ _ _).1
        have hvi : (v : Int) < (n : Int) := Int.ofNat_lt.2 hvn
        have hv0 : decide ((v : Int) < 0) = false := by simp
        clear hbi
        go_upto_block 2 with fail
        go_cut [7, 8] (fun _ _ wx => ∃ ti', rLo wx B b q p n qc pc g c S ti' ∧ Below B w wx ∧ (ti' = false → ti = false ∧ NoTie n k S))
        case first =>
          go_wp2_with fail
          go_loopw [7, 8] (fun iv _ wr => ∃ (i : Nat) (t1 : Bool), k ≤ i ∧ i ≤ n ∧ iv = .int .i64 (i : Nat) ∧ rLo wr B b q p n qc pc g c S t1 ∧ Below B w wr ∧ (t1 = false → ti = false ∧ TieTo n k i i S)) (fun iv _ _ => n - (intOf iv).toNat)
          case atStart => exact ⟨k, ti, Nat.le_refl _, Nat.le_of_lt hk, rfl, HL1.out, HB1.out, fun e => ⟨e, fun a b h1 h2 => by omega, fun b h1 h2 => by omega⟩⟩
          case round =>
            obtain ⟨i, t1, hki2, hin, rfl, hl1, hb1, ht1⟩ := hrel
            have HLi := Lib.hid hl1
            have HBi := Lib.hid hb1
            have HTi := Lib.hid ht1
            obtain ⟨y0, -, -, -, -, -, -⟩ := box6 hl1.box
            have hib : (i : Int) + 1 ≤ 65 := by have := HN.out; omega
            clear hl1 hb1 ht1
            by_cases hlt : i < n
            · have hlti : (i : Int) < (n : Int) := Int.ofNat_lt.2 hlt
              obtain ⟨z, hz⟩ : ∃ z, z = S.E i k := ⟨_, rfl⟩
              have HZ := Lib.hid hz
              clear hz
              go_wp2
              go_loopw [8] (fun jv wr => ∃ (j : Nat) (t2 : Bool), i < j ∧ j ≤ n ∧ jv = .int .i64 (j : Nat) ∧ rLo wr B b q p n qc pc g c S t2 ∧ Below B w wr ∧ (t2 = false → ti = false ∧ TieTo n k i j S)) (fun jv _ => n - (intOf jv).toNat)
              case atStart => exact ⟨i + 1, t1, Nat.lt_succ_self _, hlt, by go_num, HLi.out, HBi.out, fun e => ⟨(HTi.out e).1, (HTi.out e).2.1, fun b h1 h2 => by omega⟩⟩
              case round =>
                rename World => wj
                obtain ⟨j, t2, hij, hjn, rfl, hl2, hb2, ht2⟩ := hrel
                have HLj := Lib.hid hl2
                have HBj := Lib.hid hb2
                have HTj := Lib.hid ht2
                obtain ⟨y0, y1, -, -, y4, -, yf⟩ := box6 hl2.box
                have yf4 := yf 4
                have hjb : (j : Int) + 1 ≤ 65 := by have := HN.out; omega
                clear hl2 hb2 ht2 yf
                by_cases hltj : j < n
                · have hltij : (j : Int) < (n : Int) := Int.ofNat_lt.2 hltj
                  obtain ⟨u, hu⟩ : ∃ u, u = S.E j k := ⟨_, rfl⟩
                  have hy1 : ∀ D, (wj.drewN D).cell? ⟨b, 1, none⟩ = some (.slice (some ⟨q, 0, none⟩) n qc) := fun _ => y1
                  have hyi : ∀ D, (wj.drewN D).cell? ⟨q, i, none⟩ = some (.slice (some ⟨g i, 0, none⟩) n (c i)) := fun _ => HLj.out.tab.cellS hlt
                  have hzi : ∀ D, (wj.drewN D).cell? ⟨g i, k, none⟩ = some (.complex .f64 z.1 z.2) := fun _ => by rw [HZ.out]; exact HLj.out.tab.cellZ hlt hk
                  have hyp : ∀ D, (wj.drewN D).cell? ⟨q, j, none⟩ = some (.slice (some ⟨g j, 0, none⟩) n (c j)) := fun _ => HLj.out.tab.cellS hltj
                  have hzp : ∀ D, (wj.drewN D).cell? ⟨g j, k, none⟩ = some (.complex .f64 u.1 u.2) := fun _ => by rw [hu]; exact HLj.out.tab.cellZ hltj hk
                  have fz : pFinite z = true := by rw [HZ.out]; exact HF.out i k hlt hk
                  have lz : ltC z := by rw [HZ.out]; exact HLj.out.tab.lt i k hlt hk
                  have fu : pFinite u = true := by rw [hu]; exact HF.out j k hltj hk
                  have lu : ltC u := by rw [hu]; exact HLj.out.tab.lt j k hltj hk
                  obtain ⟨sw, hsw⟩ : ∃ sw, feq .f64 (pSize1 z) (pSize1 u) = sw := ⟨_, rfl⟩
                  have HSw := Lib.hid (show feq .f64 (pSize1 (S.E i k)) (pSize1 (S.E j k)) = sw by rw [← HZ.out, ← hu]; exact hsw)
                  clear hu
                  cases sw
                  · go_wp2
                    go_quiet ((go_at_call 74; (with_reducible refine quiet_drew' (rSize1_x _ ?_ ?_ _)) <;> assumption))
                    clear hsw hy1 hyi hzi hyp hzp
                    go_wp2
                    go_roundw
                    case rel =>
                      refine ⟨j + 1, t2, by omega, hltj, by go_num, HLj.out.heap rfl, below_drewN HBj.out _, fun e => ⟨(HTj.out e).1, (HTj.out e).2.1, fun a h1 h2 h3 => ?_⟩⟩
                      by_cases ea : a = j
                      · subst ea; exact HSw.out
                      · exact (HTj.out e).2.2 a h1 (by omega) h3
                    case measure => simp [intOf]; omega
                  · go_wp2
                    go_quiet ((go_at_call 74; (with_reducible refine quiet_drew' (rSize1_x _ ?_ ?_ _)) <;> assumption))
                    rename Nat => nq
                    have HLq := Lib.hid (show rLo (wj.drewN nq) B b q p n qc pc g c S t2 from HLj.out.heap rfl)
                    have HBq := Lib.hid (below_drewN HBj.out nq)
                    generalize wj.drewN nq = wq at HLq HBq ⊢
                    obtain ⟨-, -, -, -, y4, -, yf⟩ := box6 HLq.out.box
                    have yf4 := yf 4
                    clear hsw hy1 hyi hzi hyp hzp yf
                    go_wp2
                    go_roundw
                    case rel => exact ⟨j + 1, true, by omega, hltj, by go_num, HLq.out.tie, HBq.out.setCell HLq.out.bB _, fun e => by cases e⟩
                    case measure => simp [intOf]; omega
                · have e : j = n := by omega
                  go_wp2
                  go_roundw
                  case rel =>
                    refine ⟨i + 1, t2, by omega, hlt, by go_num, HLj.out, HBj.out, fun e2 => ⟨(HTj.out e2).1, fun a b h1 h2 h3 h4 => ?_, fun b h1 h2 => by omega⟩⟩
                    by_cases ea : a = i
                    · subst ea; exact (HTj.out e2).2.2 b h3 (by omega) h4
                    · exact (HTj.out e2).2.1 a b h1 (by omega) h3 h4
                  case measure => simp [intOf]; omega
            · have e : i = n := by omega
              go_wp2
              go_meet
              case rel => exact ⟨t1, HLi.out, HBi.out, fun e2 => ⟨(HTi.out e2).1, fun a b h1 h2 h3 => (HTi.out e2).2.1 a b h1 (by omega) h2 h3⟩⟩
        case rest =>
          obtain ⟨t3, hl3, hb3, hnt⟩ := hcut
          rename World => W2
          have HL2 := Lib.hid hl3
          have HB2 := Lib.hid hb3
          have HNt := Lib.hid hnt
          clear hl3 hb3 hnt HL1 HB1 hv0
          go_upto_if 110 with fail
          go_cut [] (fun wx => ∃ g c, rLo wx B b q p n qc pc g c (elSwap k v S) t3 ∧ Below B w wx)
          case first =>
            by_cases hvk : v = k
            · subst hvk
              go_wp2
              go_meet
              exact ⟨g, c, HL2.out.same, HB2.out⟩
            · have hne : ((v : Int) == (k : Int)) = false := by simp; omega
              obtain ⟨-, y1, -, -, -, -, -⟩ := box6 HL2.out.box
              have qk := HL2.out.tab.cellS hk
              have qv := HL2.out.tab.cellS hvn
              have qkf := HL2.out.tab.rows.frozen k
              have qvf := HL2.out.tab.rows.frozen v
              go_upto_region 19 with fail
              have d7 : k ≠ v := fun e => hvk e.symm
              refine wp_region_K 25 (by kernel_rfl) (fun V => V = W2.drew) (by kernel_rfl) (fun hsel hcl => ?_)
              refine wpAnyK_takeFree (i := 0) (v := ?va0) rfl hsel hcl (by kernel_rfl) (by kernel_rfl) rfl (fun _ _ _ h => h) rfl rfl ?hya0 (fun hcl => ?ha0)
              case hya0 => (intro w'; go_simp; first | done | with_reducible rfl)
              simp only [Act.put, List.setIfInBounds_toArray, List.set_cons_zero, List.set_cons_succ]
              refine wpAnyK_takeFree (i := 1) (v := ?va1) rfl hsel hcl (by kernel_rfl) (by kernel_rfl) rfl (fun _ _ _ h => h) rfl rfl ?hya1 (fun hcl => ?ha1)
              case hya1 => (intro w'; go_simp; first | done | with_reducible rfl)
              simp only [Act.put, List.setIfInBounds_toArray, List.set_cons_zero, List.set_cons_succ]
              refine wpAnyK_takeFree (i := 2) (v := ?va2) rfl hsel hcl (by kernel_rfl) (by kernel_rfl) rfl (fun _ _ _ h => h) rfl rfl ?hya2 (fun hcl => ?ha2)
              case hya2 => (intro w'; go_simp; first | done | with_reducible rfl)
              simp only [Act.put, List.setIfInBounds_toArray, List.set_cons_zero, List.set_cons_succ]
              refine wpAnyK_takeNeed [] (i := 3) (v := ?va3) rfl hsel hcl (by kernel_rfl) (by kernel_rfl) rfl (by decide +kernel) (fun _ _ _ h => h) rfl rfl ?hya3 (fun hcl => ?ha3)
              case hya3 => (rintro w' rfl; go_simp; first | done | with_reducible rfl)
              simp only [Act.put, List.setIfInBounds_toArray, List.set_cons_zero, List.set_cons_succ]
              refine wpAnyK_takeFree (i := 4) (v := ?va4) rfl hsel hcl (by kernel_rfl) (by kernel_rfl) rfl (fun _ _ _ h => h) rfl rfl ?hya4 (fun hcl => ?ha4)
              case hya4 => (intro w'; go_simp; first | done | with_reducible rfl)
              simp only [Act.put, List.setIfInBounds_toArray, List.set_cons_zero, List.set_cons_succ]
              refine wpAnyK_takeFree (i := 5) (v := ?va5) rfl hsel hcl (by kernel_rfl) (by kernel_rfl) rfl (fun _ _ _ h => h) rfl rfl ?hya5 (fun hcl => ?ha5)
              case hya5 => (intro w'; go_simp; first | done | with_reducible rfl)
              simp only [Act.put, List.setIfInBounds_toArray, List.set_cons_zero, List.set_cons_succ]
              refine wpAnyK_takeFree (i := 6) (v := ?va6) rfl hsel hcl (by kernel_rfl) (by kernel_rfl) rfl (fun _ _ _ h => h) rfl rfl ?hya6 (fun hcl => ?ha6)
              case hya6 => (intro w'; go_simp; first | done | with_reducible rfl)
              simp only [Act.put, List.setIfInBounds_toArray, List.set_cons_zero, List.set_cons_succ]
              refine wpAnyK_takeFree (i := 7) (v := ?va7) rfl hsel hcl (by kernel_rfl) (by kernel_rfl) rfl (fun _ _ _ h => h) rfl rfl ?hya7 (fun hcl => ?ha7)
              case hya7 => (intro w'; go_simp; first | done | with_reducible rfl)
              simp only [Act.put, List.setIfInBounds_toArray, List.set_cons_zero, List.set_cons_succ]
              refine wpAnyK_takeNeed [] (i := 8) (v := ?va8) rfl hsel hcl (by kernel_rfl) (by kernel_rfl) rfl (by decide +kernel) (fun _ _ _ h => h) rfl rfl ?hya8 (fun hcl => ?ha8)
              case hya8 => (rintro w' rfl; go_simp; first | done | with_reducible rfl)
              simp only [Act.put, List.setIfInBounds_toArray, List.set_cons_zero, List.set_cons_succ]
              refine wpAnyK_takeFree (i := 9) (v := ?va9) rfl hsel hcl (by kernel_rfl) (by kernel_rfl) rfl (fun _ _ _ h => h) rfl rfl ?hya9 (fun hcl => ?ha9)
              case hya9 => (intro w'; go_simp; first | done | with_reducible rfl)
              simp only [Act.put, List.setIfInBounds_toArray, List.set_cons_zero, List.set_cons_succ]
              refine wpAnyK_takeFree (i := 10) (v := ?va10) rfl hsel hcl (by kernel_rfl) (by kernel_rfl) rfl (fun _ _ _ h => h) rfl rfl ?hya10 (fun hcl => ?ha10)
              case hya10 => (intro w'; go_simp; first | done | with_reducible rfl)
              simp only [Act.put, List.setIfInBounds_toArray, List.set_cons_zero, List.set_cons_succ]
              refine wpAnyK_takeFree (i := 11) (v := ?va11) rfl hsel hcl (by kernel_rfl) (by kernel_rfl) rfl (fun _ _ _ h => h) rfl rfl ?hya11 (fun hcl => ?ha11)
              case hya11 => (intro w'; go_simp; first | done | with_reducible rfl)
              simp only [Act.put, List.setIfInBounds_toArray, List.set_cons_zero, List.set_cons_succ]
              refine wpAnyK_takeFree (i := 12) (v := ?va12) rfl hsel hcl (by kernel_rfl) (by kernel_rfl) rfl (fun _ _ _ h => h) rfl rfl ?hya12 (fun hcl => ?ha12)
              case hya12 => (intro w'; go_simp; first | done | with_reducible rfl)
              simp only [Act.put, List.setIfInBounds_toArray, List.set_cons_zero, List.set_cons_succ]
              refine wpAnyK_takeNeed [] (i := 13) (v := ?va13) rfl hsel hcl (by kernel_rfl) (by kernel_rfl) rfl (by decide +kernel) (fun _ _ _ h => h) rfl rfl ?hya13 (fun hcl => ?ha13)
              case hya13 => (rintro w' rfl; go_simp; first | done | with_reducible rfl)
              simp only [Act.put, List.setIfInBounds_toArray, List.set_cons_zero, List.set_cons_succ]
              refine wpAnyK_takeFree (i := 14) (v := ?va14) rfl hsel hcl (by kernel_rfl) (by kernel_rfl) rfl (fun _ _ _ h => h) rfl rfl ?hya14 (fun hcl => ?ha14)
              case hya14 => (intro w'; go_simp; first | done | with_reducible rfl)
              simp only [Act.put, List.setIfInBounds_toArray, List.set_cons_zero, List.set_cons_succ]
              refine wpAnyK_takeFree (i := 15) (v := ?va15) rfl hsel hcl (by kernel_rfl) (by kernel_rfl) rfl (fun _ _ _ h => h) rfl rfl ?hya15 (fun hcl => ?ha15)
              case hya15 => (intro w'; go_simp; first | done | with_reducible rfl)
              simp only [Act.put, List.setIfInBounds_toArray, List.set_cons_zero, List.set_cons_succ]
              refine wpAnyK_takeNeed [] (i := 16) (v := ?va16) rfl hsel hcl (by kernel_rfl) (by kernel_rfl) rfl (by decide +kernel) (fun _ _ _ h => h) rfl rfl ?hya16 (fun hcl => ?ha16)
              case hya16 => (rintro w' rfl; go_simp; first | done | with_reducible rfl)
              simp only [Act.put, List.setIfInBounds_toArray, List.set_cons_zero, List.set_cons_succ]
              refine wpAnyK_takeFree (i := 17) (v := ?va17) rfl hsel hcl (by kernel_rfl) (by kernel_rfl) rfl (fun _ _ _ h => h) rfl rfl ?hya17 (fun hcl => ?ha17)
              case hya17 => (intro w'; go_simp; first | done | with_reducible rfl)
              simp only [Act.put, List.setIfInBounds_toArray, List.set_cons_zero, List.set_cons_succ]
              refine wpAnyK_takeFree (i := 18) (v := ?va18) rfl hsel hcl (by kernel_rfl) (by kernel_rfl) rfl (fun _ _ _ h => h) rfl rfl ?hya18 (fun hcl => ?ha18)
              case hya18 => (intro w'; go_simp; first | done | with_reducible rfl)
              simp only [Act.put, List.setIfInBounds_toArray, List.set_cons_zero, List.set_cons_succ]
              refine wpAnyK_takeFree (i := 19) (v := ?va19) rfl hsel hcl (by kernel_rfl) (by kernel_rfl) rfl (fun _ _ _ h => h) rfl rfl ?hya19 (fun hcl => ?ha19)
              case hya19 => (intro w'; go_simp; first | done | with_reducible rfl)
              simp only [Act.put, List.setIfInBounds_toArray, List.set_cons_zero, List.set_cons_succ]
              refine wpAnyK_takeNeed [] (i := 20) (v := ?va20) rfl hsel hcl (by kernel_rfl) (by kernel_rfl) rfl (by decide +kernel) (fun _ _ _ h => h) rfl rfl ?hya20 (fun hcl => ?ha20)
              case hya20 => (rintro w' rfl; go_simp; first | done | with_reducible rfl)
              simp only [Act.put, List.setIfInBounds_toArray, List.set_cons_zero, List.set_cons_succ]
              refine wpAnyK_takeFree (i := 21) (v := ?va21) rfl hsel hcl (by kernel_rfl) (by kernel_rfl) rfl (fun _ _ _ h => h) rfl rfl ?hya21 (fun hcl => ?ha21)
              case hya21 => (intro w'; go_simp; first | done | with_reducible rfl)
              simp only [Act.put, List.setIfInBounds_toArray, List.set_cons_zero, List.set_cons_succ]
              refine wpAnyK_takeFree (i := 22) (v := ?va22) rfl hsel hcl (by kernel_rfl) (by kernel_rfl) rfl (fun _ _ _ h => h) rfl rfl ?hya22 (fun hcl => ?ha22)
              case hya22 => (intro w'; go_simp; first | done | with_reducible rfl)
              simp only [Act.put, List.setIfInBounds_toArray, List.set_cons_zero, List.set_cons_succ]
              refine wpAnyK_takeNeed [] (i := 23) (v := ?va23) rfl hsel hcl (by kernel_rfl) (by kernel_rfl) rfl (by decide +kernel) (fun _ _ _ h => h) rfl rfl ?hya23 (fun hcl => ?ha23)
              case hya23 => (rintro w' rfl; go_simp; first | done | with_reducible rfl)
              simp only [Act.put, List.setIfInBounds_toArray, List.set_cons_zero, List.set_cons_succ]
              refine wpAnyK_takeFree (i := 24) (v := ?va24) rfl hsel hcl (by kernel_rfl) (by kernel_rfl) rfl (fun _ _ _ h => h) rfl rfl ?hya24 (fun hcl => ?ha24)
              case hya24 => (intro w'; go_simp; first | done | with_reducible rfl)
              simp only [Act.put, List.setIfInBounds_toArray, List.set_cons_zero, List.set_cons_succ]
              refine wpAnyK_store (st := 25) rfl (by decide +kernel) rfl ?_
              go_simp
              refine wpAny_one (i := 26) rfl (by decide +kernel) rfl ?_
              go_simp
              refine wpAny_one (i := 27) rfl (by decide +kernel) rfl ?_
              go_simp
              refine wpAny_done (by decide +kernel) ?_ _
              obtain ⟨Wa, hWa⟩ : ∃ Wa, Wa = ((W2.setCell ⟨q, v, none⟩ (.slice (some ⟨g k, 0, none⟩) n (c k))).setCell ⟨q, k, none⟩ (.slice (some ⟨g v, 0, none⟩) n (c v))).drew := ⟨_, rfl⟩
              rw [← hWa]
              have xb : Wa.heap[b]? = some (.cells #[.int .i64 (n : Nat), .slice (some ⟨q, 0, none⟩) n qc, .slice (some ⟨p, 0, none⟩) n pc, .bool S.s, .bool t3, .bool true] 81) := by
                rw [hWa]
                show ((W2.setCell _ _).setCell _ _).heap[b]? = _
                rw [Below.heap_setCell _ _ _ _ HL2.out.bq, Below.heap_setCell _ _ _ _ HL2.out.bq]; exact HL2.out.box
              have xo : rowGe Wa p 3 n (fun i => .int .i64 (S.o i : Nat)) := ((HL2.out.tab.ord.setOther (a := ⟨q, v, none⟩) (fun e => HL2.out.tab.qp e.symm) _).setOther (a := ⟨q, k, none⟩) (fun e => HL2.out.tab.qp e.symm) _).heap (by rw [hWa]; rfl)
              have HWa := Lib.hid hWa
              have HXb := Lib.hid xb
              clear hWa qk qv qkf qvf y1
              obtain ⟨-, -, y2, -, -, -, -⟩ := box6 xb
              have pk := xo.cell hk
              have pv := xo.cell hvn
              have pkf := xo.frozen k
              have pvf := xo.frozen v
              clear xb xo
              go_upto_region 20 with fail
              refine wp_region_K 25 (by kernel_rfl) (fun V => V = Wa.drew) (by kernel_rfl) (fun hsel hcl => ?_)
              refine wpAnyK_takeFree (i := 0) (v := ?vb0) rfl hsel hcl (by kernel_rfl) (by kernel_rfl) rfl (fun _ _ _ h => h) rfl rfl ?hyb0 (fun hcl => ?hb0)
              case hyb0 => (intro w'; go_simp; first | done | with_reducible rfl)
              simp only [Act.put, List.setIfInBounds_toArray, List.set_cons_zero, List.set_cons_succ]
              refine wpAnyK_takeFree (i := 1) (v := ?vb1) rfl hsel hcl (by kernel_rfl) (by kernel_rfl) rfl (fun _ _ _ h => h) rfl rfl ?hyb1 (fun hcl => ?hb1)
              case hyb1 => (intro w'; go_simp; first | done | with_reducible rfl)
              simp only [Act.put, List.setIfInBounds_toArray, List.set_cons_zero, List.set_cons_succ]
              refine wpAnyK_takeFree (i := 2) (v := ?vb2) rfl hsel hcl (by kernel_rfl) (by kernel_rfl) rfl (fun _ _ _ h => h) rfl rfl ?hyb2 (fun hcl => ?hb2)
              case hyb2 => (intro w'; go_simp; first | done | with_reducible rfl)
              simp only [Act.put, List.setIfInBounds_toArray, List.set_cons_zero, List.set_cons_succ]
              refine wpAnyK_takeNeed [] (i := 3) (v := ?vb3) rfl hsel hcl (by kernel_rfl) (by kernel_rfl) rfl (by decide +kernel) (fun _ _ _ h => h) rfl rfl ?hyb3 (fun hcl => ?hb3)
              case hyb3 => (rintro w' rfl; go_simp; first | done | with_reducible rfl)
              simp only [Act.put, List.setIfInBounds_toArray, List.set_cons_zero, List.set_cons_succ]
              refine wpAnyK_takeFree (i := 4) (v := ?vb4) rfl hsel hcl (by kernel_rfl) (by kernel_rfl) rfl (fun _ _ _ h => h) rfl rfl ?hyb4 (fun hcl => ?hb4)
              case hyb4 => (intro w'; go_simp; first | done | with_reducible rfl)
              simp only [Act.put, List.setIfInBounds_toArray, List.set_cons_zero, List.set_cons_succ]
              refine wpAnyK_takeFree (i := 5) (v := ?vb5) rfl hsel hcl (by kernel_rfl) (by kernel_rfl) rfl (fun _ _ _ h => h) rfl rfl ?hyb5 (fun hcl => ?hb5)
              case hyb5 => (intro w'; go_simp; first | done | with_reducible rfl)
              simp only [Act.put, List.setIfInBounds_toArray, List.set_cons_zero, List.set_cons_succ]
              refine wpAnyK_takeFree (i := 6) (v := ?vb6) rfl hsel hcl (by kernel_rfl) (by kernel_rfl) rfl (fun _ _ _ h => h) rfl rfl ?hyb6 (fun hcl => ?hb6)
              case hyb6 => (intro w'; go_simp; first | done | with_reducible rfl)
              simp only [Act.put, List.setIfInBounds_toArray, List.set_cons_zero, List.set_cons_succ]
              refine wpAnyK_takeFree (i := 7) (v := ?vb7) rfl hsel hcl (by kernel_rfl) (by kernel_rfl) rfl (fun _ _ _ h => h) rfl rfl ?hyb7 (fun hcl => ?hb7)
              case hyb7 => (intro w'; go_simp; first | done | with_reducible rfl)
              simp only [Act.put, List.setIfInBounds_toArray, List.set_cons_zero, List.set_cons_succ]
              refine wpAnyK_takeNeed [] (i := 8) (v := ?vb8) rfl hsel hcl (by kernel_rfl) (by kernel_rfl) rfl (by decide +kernel) (fun _ _ _ h => h) rfl rfl ?hyb8 (fun hcl => ?hb8)
              case hyb8 => (rintro w' rfl; go_simp; first | done | with_reducible rfl)
              simp only [Act.put, List.setIfInBounds_toArray, List.set_cons_zero, List.set_cons_succ]
              refine wpAnyK_takeFree (i := 9) (v := ?vb9) rfl hsel hcl (by kernel_rfl) (by kernel_rfl) rfl (fun _ _ _ h => h) rfl rfl ?hyb9 (fun hcl => ?hb9)
              case hyb9 => (intro w'; go_simp; first | done | with_reducible rfl)
              simp only [Act.put, List.setIfInBounds_toArray, List.set_cons_zero, List.set_cons_succ]
              refine wpAnyK_takeFree (i := 10) (v := ?vb10) rfl hsel hcl (by kernel_rfl) (by kernel_rfl) rfl (fun _ _ _ h => h) rfl rfl ?hyb10 (fun hcl => ?hb10)
              case hyb10 => (intro w'; go_simp; first | done | with_reducible rfl)
              simp only [Act.put, List.setIfInBounds_toArray, List.set_cons_zero, List.set_cons_succ]
              refine wpAnyK_takeFree (i := 11) (v := ?vb11) rfl hsel hcl (by kernel_rfl) (by kernel_rfl) rfl (fun _ _ _ h => h) rfl rfl ?hyb11 (fun hcl => ?hb11)
              case hyb11 => (intro w'; go_simp; first | done | with_reducible rfl)
              simp only [Act.put, List.setIfInBounds_toArray, List.set_cons_zero, List.set_cons_succ]
              refine wpAnyK_takeFree (i := 12) (v := ?vb12) rfl hsel hcl (by kernel_rfl) (by kernel_rfl) rfl (fun _ _ _ h => h) rfl rfl ?hyb12 (fun hcl => ?hb12)
              case hyb12 => (intro w'; go_simp; first | done | with_reducible rfl)
              simp only [Act.put, List.setIfInBounds_toArray, List.set_cons_zero, List.set_cons_succ]
              refine wpAnyK_takeNeed [] (i := 13) (v := ?vb13) rfl hsel hcl (by kernel_rfl) (by kernel_rfl) rfl (by decide +kernel) (fun _ _ _ h => h) rfl rfl ?hyb13 (fun hcl => ?hb13)
              case hyb13 => (rintro w' rfl; go_simp; first | done | with_reducible rfl)
              simp only [Act.put, List.setIfInBounds_toArray, List.set_cons_zero, List.set_cons_succ]
              refine wpAnyK_takeFree (i := 14) (v := ?vb14) rfl hsel hcl (by kernel_rfl) (by kernel_rfl) rfl (fun _ _ _ h => h) rfl rfl ?hyb14 (fun hcl => ?hb14)
              case hyb14 => (intro w'; go_simp; first | done | with_reducible rfl)
              simp only [Act.put, List.setIfInBounds_toArray, List.set_cons_zero, List.set_cons_succ]
              refine wpAnyK_takeFree (i := 15) (v := ?vb15) rfl hsel hcl (by kernel_rfl) (by kernel_rfl) rfl (fun _ _ _ h => h) rfl rfl ?hyb15 (fun hcl => ?hb15)
              case hyb15 => (intro w'; go_simp; first | done | with_reducible rfl)
              simp only [Act.put, List.setIfInBounds_toArray, List.set_cons_zero, List.set_cons_succ]
              refine wpAnyK_takeNeed [] (i := 16) (v := ?vb16) rfl hsel hcl (by kernel_rfl) (by kernel_rfl) rfl (by decide +kernel) (fun _ _ _ h => h) rfl rfl ?hyb16 (fun hcl => ?hb16)
              case hyb16 => (rintro w' rfl; go_simp; first | done | with_reducible rfl)
              simp only [Act.put, List.setIfInBounds_toArray, List.set_cons_zero, List.set_cons_succ]
              refine wpAnyK_takeFree (i := 17) (v := ?vb17) rfl hsel hcl (by kernel_rfl) (by kernel_rfl) rfl (fun _ _ _ h => h) rfl rfl ?hyb17 (fun hcl => ?hb17)
              case hyb17 => (intro w'; go_simp; first | done | with_reducible rfl)
              simp only [Act.put, List.setIfInBounds_toArray, List.set_cons_zero, List.set_cons_succ]
              refine wpAnyK_takeFree (i := 18) (v := ?vb18) rfl hsel hcl (by kernel_rfl) (by kernel_rfl) rfl (fun _ _ _ h => h) rfl rfl ?hyb18 (fun hcl => ?hb18)
              case hyb18 => (intro w'; go_simp; first | done | with_reducible rfl)
              simp only [Act.put, List.setIfInBounds_toArray, List.set_cons_zero, List.set_cons_succ]
              refine wpAnyK_takeFree (i := 19) (v := ?vb19) rfl hsel hcl (by kernel_rfl) (by kernel_rfl) rfl (fun _ _ _ h => h) rfl rfl ?hyb19 (fun hcl => ?hb19)
              case hyb19 => (intro w'; go_simp; first | done | with_reducible rfl)
              simp only [Act.put, List.setIfInBounds_toArray, List.set_cons_zero, List.set_cons_succ]
              refine wpAnyK_takeNeed [] (i := 20) (v := ?vb20) rfl hsel hcl (by kernel_rfl) (by kernel_rfl) rfl (by decide +kernel) (fun _ _ _ h => h) rfl rfl ?hyb20 (fun hcl => ?hb20)
              case hyb20 => (rintro w' rfl; go_simp; first | done | with_reducible rfl)
              simp only [Act.put, List.setIfInBounds_toArray, List.set_cons_zero, List.set_cons_succ]
              refine wpAnyK_takeFree (i := 21) (v := ?vb21) rfl hsel hcl (by kernel_rfl) (by kernel_rfl) rfl (fun _ _ _ h => h) rfl rfl ?hyb21 (fun hcl => ?hb21)
              case hyb21 => (intro w'; go_simp; first | done | with_reducible rfl)
              simp only [Act.put, List.setIfInBounds_toArray, List.set_cons_zero, List.set_cons_succ]
              refine wpAnyK_takeFree (i := 22) (v := ?vb22) rfl hsel hcl (by kernel_rfl) (by kernel_rfl) rfl (fun _ _ _ h => h) rfl rfl ?hyb22 (fun hcl => ?hb22)
              case hyb22 => (intro w'; go_simp; first | done | with_reducible rfl)
              simp only [Act.put, List.setIfInBounds_toArray, List.set_cons_zero, List.set_cons_succ]
              refine wpAnyK_takeNeed [] (i := 23) (v := ?vb23) rfl hsel hcl (by kernel_rfl) (by kernel_rfl) rfl (by decide +kernel) (fun _ _ _ h => h) rfl rfl ?hyb23 (fun hcl => ?hb23)
              case hyb23 => (rintro w' rfl; go_simp; first | done | with_reducible rfl)
              simp only [Act.put, List.setIfInBounds_toArray, List.set_cons_zero, List.set_cons_succ]
              refine wpAnyK_takeFree (i := 24) (v := ?vb24) rfl hsel hcl (by kernel_rfl) (by kernel_rfl) rfl (fun _ _ _ h => h) rfl rfl ?hyb24 (fun hcl => ?hb24)
              case hyb24 => (intro w'; go_simp; first | done | with_reducible rfl)
              simp only [Act.put, List.setIfInBounds_toArray, List.set_cons_zero, List.set_cons_succ]
              refine wpAnyK_store (st := 25) rfl (by decide +kernel) rfl ?_
              go_simp
              refine wpAny_one (i := 26) rfl (by decide +kernel) rfl ?_
              go_simp
              refine wpAny_one (i := 27) rfl (by decide +kernel) rfl ?_
              go_simp
              refine wpAny_done (by decide +kernel) ?_ _
              obtain ⟨Wb, hWb⟩ : ∃ Wb, Wb = ((Wa.setCell ⟨p, v, none⟩ (.int .i64 (S.o k : Nat))).setCell ⟨p, k, none⟩ (.int .i64 (S.o v : Nat))).drew := ⟨_, rfl⟩
              rw [← hWb]
              have xb : Wb.heap[b]? = some (.cells #[.int .i64 (n : Nat), .slice (some ⟨q, 0, none⟩) n qc, .slice (some ⟨p, 0, none⟩) n pc, .bool S.s, .bool t3, .bool true] 81) := by
                rw [hWb]
                show ((Wa.setCell _ _).setCell _ _).heap[b]? = _
                rw [Below.heap_setCell _ _ _ _ HL2.out.bp, Below.heap_setCell _ _ _ _ HL2.out.bp]; exact HXb.out
              have HWb := Lib.hid hWb
              clear hWb y2 pk pv pkf pvf
              obtain ⟨-, -, -, y3, -, -, yf⟩ := box6 xb
              have yf3 := yf 3
              clear xb yf
              go_wp2
              go_meet
              have hh : (Wb.setCell ⟨b, 3, none⟩ (.bool (!S.s))).heap = (((((W2.setCell ⟨q, v, none⟩ (.slice (some ⟨g k, 0, none⟩) n (c k))).setCell ⟨q, k, none⟩ (.slice (some ⟨g v, 0, none⟩) n (c v))).setCell ⟨p, v, none⟩ (.int .i64 (S.o k : Nat))).setCell ⟨p, k, none⟩ (.int .i64 (S.o v : Nat))).setCell ⟨b, 3, none⟩ (.bool (!S.s))).heap := by rw [HWb.out, HWa.out]; rfl
              refine ⟨_, _, (HL2.out.swap hk hvn hvk).heap hh, ?_⟩
              rw [HWb.out, HWa.out]
              exact ((((((HB2.out.setCell HL2.out.tab.qB _).setCell HL2.out.tab.qB _).drew).setCell HL2.out.tab.pB _).setCell HL2.out.tab.pB _).drew).setCell HL2.out.bB _
          case rest =>
            rename_i K1 a1
            revert hk HF HB HN hki W1 u6 d v HV HNl hvn hkv hvi W2 u7 u8 t3 HL2 HB2 HNt K1 a1 wc u13 u14 u15 u16 u17 u18 u19 u20 u21 u22 u23 u24 u25 u26 u27 u28 u29 u30 u31 u32 u33 u34 u35 u36 u37 u38 u39 u40 u41 u42 u43 u44 u45 u46 u47 u48 u49 u50 u51 u52 u53 u54 u55 u56 u57 u58 u59 u60 u61 u62 u63 u64 u65 u66 u67 u68 u69 u70 u71 u72 u73 u74 u75 u76 u77 u78 u79 u80 u81 u82 u83 u84 u85 u86 u87 u88 u89 u90 u91 u92 u93 u94 u95 u96 u97 u98 u99 u100 u101 u102 u103 u104 u105 u106 u107 u108 u109 u110 u111 u112 u113 u114 u115 u116 u117 u118 u119 u120 u121 u122 u123 u124 u125 u126 u127 u128 u129 u130 u131 u132 u133 u134 u135 u136 u137 u138 u139 u140 u141 u142 u143 u144 u145 u146 u147 u148 u149 u150 u151 u152 u153 u154 u155 u156 u157 u158 u159 u160 u161 u162 u163 u164 u165 u166 u167 u168 u169 u170 u171 u172 u173 u174 u175 u176 u177 u178 u179 u180 u181 u182 u183 u184 u185 u186 u187 u188 u189 u190 u191 u192 u193 u194 u195 u196 u197 u198 u199 u200 u201 u202 u203 u204 u205 u206 u207 u208 u209 u210 u211 u212 u213 u214 u215 u216 u217 u218 u219 u220 u221 u222 u223 u224 u225 u226 u227 u228 u229 u230 u231 u232 u233 u234 u235 u236 u237 u238 u239 u240 u241 u242 u243 u244 u245 u246 u247 u248 u249 u250 u251 u252 u253 u254 u255 u256 u257 u258 u259 u260 u261 u262 u263 u264 u265 u266 u267 u268 u269 u270 u271 u272 u273 u274 u275 hcut
            exact hP.out
      · have hbi : bestI (if true = true then none else some v) = -1 := rfl
        rw [hbi]
        go_wp2
        go_ret
        have he : elErr n k S = 7 := by unfold elErr elNil; rw [HNl.out]; rfl
        exact ⟨by rw [he]; rfl, HB1.out, fun h => by rw [he] at h; cases h⟩
set_option linter.unusedSimpArgs false in
set_option maxHeartbeats 64000000 in
theorem colB9 (B b q p n qc pc k : Nat) (g c : Nat → Nat) (S : El) (ti : Bool) (w : World) : (colA9 B b q p n qc pc k g c S ti w).1 := by
  refine fun hk HF HB HN hki W1 u6 d v HV HNl hvn hkv hvi W2 u7 u8 t3 HL2 HB2 HNt K1 a1 wc u13 u14 u15 u16 u17 u18 u19 u20 u21 u22 u23 u24 u25 u26 u27 u28 u29 u30 u31 u32 u33 u34 u35 u36 u37 u38 u39 u40 u41 u42 u43 u44 u45 u46 u47 u48 u49 u50 u51 u52 u53 u54 u55 u56 u57 u58 u59 u60 u61 u62 u63 u64 u65 u66 u67 u68 u69 u70 u71 u72 u73 u74 u75 u76 u77 u78 u79 u80 u81 u82 u83 u84 u85 u86 u87 u88 u89 u90 u91 u92 u93 u94 u95 u96 u97 u98 u99 u100 u101 u102 u103 u104 u105 u106 u107 u108 u109 u110 u111 u112 u113 u114 u115 u116 u117 u118 u119 u120 u121 u122 u123 u124 u125 u126 u127 u128 u129 u130 u131 u132 u133 u134 u135 u136 u137 u138 u139 u140 u141 u142 u143 u144 u145 u146 u147 u148 u149 u150 u151 u152 u153 u154 u155 u156 u157 u158 u159 u160 u161 u162 u163 u164 u165 u166 u167 u168 u169 u170 u171 u172 u173 u174 u175 u176 u177 u178 u179 u180 u181 u182 u183 u184 u185 u186 u187 u188 u189 u190 u191 u192 u193 u194 u195 u196 u197 u198 u199 u200 u201 u202 u203 u204 u205 u206 u207 u208 u209 u210 u211 u212 u213 u214 u215 u216 u217 u218 u219 u220 u221 u222 u223 u224 u225 u226 u227 u228 u229 u230 u231 u232 u233 u234 u235 u236 u237 u238 u239 u240 u241 u242 u243 u244 u245 u246 u247 u248 u249 u250 u251 u252 u253 u254 u255 u256 u257 u258 u259 u260 u261 u262 u263 u264 u265 u266 u267 u268 u269 u270 u271 u272 u273 u274 u275 hcut => ?_
  obtain ⟨g', c', hLo, hBel⟩ := hcut
  rename World => W3
  obtain ⟨S1, hS1⟩ : ∃ S1, S1 = elSwap k v S := ⟨_, rfl⟩
  rw [← hS1] at hLo
  have hf1 : finTo S1.E n := fun i j hi hj => by rw [hS1]; exact HF.out _ j (xch_lt hk hvn hi) hj
  have HS1 := Lib.hid hS1
  have HF1 := Lib.hid hf1
  have HL3 := Lib.hid hLo
  have HB3 := Lib.hid hBel
  clear hS1 hLo hBel hf1 HL2 HB2
  have hk1 : (k : Int) + 1 ≤ 64 := by have := HN.out; omega
  go_wp2
  go_loopw [9, 10, 11, 12] (fun fv iv _ _ wr => RelC2 B b q p n qc pc k g' c' S1 t3 w fv iv wr) (fun _ iv _ _ _ => n - (intOf iv).toNat)
  case atStart => exact ⟨k + 1, S1.E, Nat.lt_succ_self k, hk, by go_num, by rw [Nat.sub_self]; rfl, HL3.out, ElimR.start _ _ _, HB3.out⟩
  case round =>
    rename World => wi
    obtain ⟨i, Z, hki2, hin, rfl, rfl, hLo, hEl, hBel⟩ := hrel
    obtain ⟨f0, hf0⟩ : ∃ x, fineTo (elE S1.E k) n k (i - (k + 1)) = x := ⟨_, rfl⟩
    rw [hf0]
    have HF0 := Lib.hid hf0
    have HLi := Lib.hid hLo
    have HEl := Lib.hid hEl
    have HBi := Lib.hid hBel
    obtain ⟨y0, y1, -, -, -, -, -⟩ := box6 hLo.box
    clear hf0 hLo hEl hBel
    have hib : (i : Int) + 1 ≤ 65 := by have := HN.out; omega
    by_cases hlt : i < n
    · have hlti : (i : Int) < (n : Int) := Int.ofNat_lt.2 hlt
      have hqi := HLi.out.tab.cellS hlt
      have hqk := HLi.out.tab.cellS hk
      have hEi : Z i k = S1.E i k := (HEl.out i k hlt hk).2 (Nat.le_refl _)
      have hEk : Z k k = S1.E k k := HEl.out.old HF1.out (Nat.le_refl _) hki2 hk hk
      have hzi := HLi.out.tab.cellZ hlt hk
      have hzk := HLi.out.tab.cellZ hk hk
      rw [show (⟨Z, S1.o, S1.s⟩ : El).E = Z from rfl, hEi] at hzi
      rw [show (⟨Z, S1.o, S1.s⟩ : El).E = Z from rfl, hEk] at hzk
      have lt1 : ltC (S1.E i k) := by rw [← hEi]; exact HLi.out.tab.lt i k hlt hk
      have lt2 : ltC (S1.E k k) := by rw [← hEk]; exact HLi.out.tab.lt k k hk hk
      obtain ⟨F, hF⟩ : ∃ F, elF S1.E k i = F := ⟨_, rfl⟩
      have hdiv : ∀ V, Below wi.heap.size wi V → Calls Tryz.prog 77 #[.complex .f64 (S1.E i k).1 (S1.E i k).2, .complex .f64 (S1.E k k).1 (S1.E k k).2] V (FromZ F wi.heap.size wi) := fun V hV => by
        have h := rDiv_c (S1.E i k).1 (S1.E i k).2 (S1.E k k).1 (S1.E k k).2 lt2.1 lt2.2 V
        have f1 := fin_cn1 (HF1.out i k hlt hk)
        have f2 := fin_cn1 (HF1.out k k hk hk)
        rw [f1.1, f1.2, f2.1, f2.2] at h
        rw [← hF]
        exact from_c h hV
      have hkp : ∀ V, Below wi.heap.size wi V → V.cell? ⟨b, 1, none⟩ = some (.slice (some ⟨q, 0, none⟩) n qc) ∧ V.cell? ⟨q, i, none⟩ = some (.slice (some ⟨g' i, 0, none⟩) n (c' i)) ∧ V.cell? ⟨q, k, none⟩ = some (.slice (some ⟨g' k, 0, none⟩) n (c' k)) ∧ V.cell? ⟨g' i, k, none⟩ = some (.complex .f64 (S1.E i k).1 (S1.E i k).2) ∧ V.cell? ⟨g' k, k, none⟩ = some (.complex .f64 (S1.E k k).1 (S1.E k k).2) := fun V hV =>
        have go : ∀ {p : Addr} {v : Value}, wi.cell? p = some v → V.cell? p = some v := fun h => (hV.cell (block_lt_of_cell h)).trans h
        ⟨go y1, go hqi, go hqk, go hzi, go hzk⟩
      have HDiv := Lib.hid hdiv
      have HKP := Lib.hid hkp
      have HFe := Lib.hid hF
      clear hdiv hkp hEi hEk hqk hzi hzk lt1 lt2 hF hqi
      go_upto_region 26 with fail
      go_cut [11] (fun s13 wx => ∃ z : C, s13 = .complex .f64 z.1 z.2 ∧ cnC z = F ∧ ltC z ∧ Below wi.heap.size wi wx)
      case first => as_aux_lemma =>
        go_region_held3 (fun V => V.cell? ⟨b, 1, none⟩ = some (.slice (some ⟨q, 0, none⟩) n qc) ∧ V.cell? ⟨q, i, none⟩ = some (.slice (some ⟨g' i, 0, none⟩) n (c' i)) ∧ V.cell? ⟨q, k, none⟩ = some (.slice (some ⟨g' k, 0, none⟩) n (c' k)) ∧ V.cell? ⟨g' i, k, none⟩ = some (.complex .f64 (S1.E i k).1 (S1.E i k).2) ∧ V.cell? ⟨g' k, k, none⟩ = some (.complex .f64 (S1.E k k).1 (S1.E k k).2))
          (with_reducible refine HKP.out _ ?_; (repeat (first | with_reducible assumption | with_reducible refine Below.drew ?_ | with_reducible exact Below.refl _ _)); done)
          (first
          | (go_at_call 77; (with_reducible refine (HDiv.out _ ?_).mono ?_); (repeat (first | with_reducible assumption | with_reducible refine Below.drew ?_ | with_reducible exact Below.refl _ _)); (rintro e V ⟨z, rfl, hz, lz, hV⟩)))
        all_goals
          go_wp2_with fail
          go_meet
          exact ⟨z, rfl, hz, lz, hV⟩
      case rest =>
        obtain ⟨zf, rfl, hz, lz, hV⟩ := hcut
        rename World => wf
        have HZf := Lib.hid hz
        have LZf := Lib.hid lz
        have HLf := Lib.hid (HLi.out.below hV)
        have HBf := Lib.hid (HBi.out.trans (hV.mono (Nat.le_trans HB.out HBi.out.size)))
        clear hz lz hV HKP HDiv y1 y0 HLi HBi
        obtain ⟨ff, hff⟩ : ∃ x, pFinite F = x := ⟨_, rfl⟩
        have hfi := rFinite_c zf.1 zf.2 LZf.out.1 LZf.out.2
        rw [show (cn .f64 zf.1, cn .f64 zf.2) = F from HZf.out, hff] at hfi
        have HFi := Lib.hid hfi
        have HFf := Lib.hid hff
        clear hfi hff
        go_upto_region 27 with fail
        go_cut [9] (fun s10 wx => Fin1 (!(f0 && ff)) wf.heap.size wf s10 wx)
        case first => as_aux_lemma =>
          cases f0
          · go_wp2
            go_meet
            exact ⟨rfl, Below.refl _ _⟩
          · go_wp2_with fail
            refine (HFi.out _).mono ?_
            rintro e w' ⟨d, rfl, rfl⟩
            go_wp2
            go_meet
            exact ⟨rfl, below_drewN (Below.refl _ _) _⟩
        case rest =>
          obtain ⟨rfl, hV⟩ := hcut
          rename World => wg
          have HLg := Lib.hid (HLf.out.below hV)
          have HBg := Lib.hid (HBf.out.trans (hV.mono (Nat.le_trans HB.out HBf.out.size)))
          clear hV HLf HBf HFi
          go_wp2
          go_loopw [9, 12] (fun fv jv wr => RelC3 B b q p n qc pc k i g' c' S1 t3 f0 w fv jv wr) (fun _ jv _ => n - (intOf jv).toNat)
          case atStart =>
            refine ⟨k + 1, Z, Nat.lt_succ_self k, hk, by go_num, ?_, HLg.out, RowR.start HEl.out, HBg.out⟩
            rw [Nat.sub_self, ← HFf.out, ← HFe.out, ← elE_fac hki2]; rfl
          case round =>
            rename World => wj
            obtain ⟨j, Z', hkj, hjn, rfl, rfl, hLo, hRow, hBel⟩ := hrel
            obtain ⟨f1, hf1⟩ : ∃ x, (f0 && fineRow (elE S1.E k) k i (j - (k + 1))) = x := ⟨_, rfl⟩
            rw [hf1]
            have HF1r := Lib.hid hf1
            have HLj := Lib.hid hLo
            have HRow := Lib.hid hRow
            have HBj := Lib.hid hBel
            obtain ⟨y0, y1, -, -, -, -, -⟩ := box6 hLo.box
            clear hf1 hLo hRow hBel HLg HBg
            have hjb : (j : Int) + 1 ≤ 65 := by have := HN.out; omega
            by_cases hltj : j < n
            · have hltij : (j : Int) < (n : Int) := Int.ofNat_lt.2 hltj
              have hqi := HLj.out.tab.cellS hlt
              have hqk := HLj.out.tab.cellS hk
              have hEi : Z' i j = S1.E i j := (HRow.out i j hlt hltj).2.2.2 rfl (.inr (Nat.le_refl _))
              have hEk : Z' k j = S1.E k j := HRow.out.old HF1.out (Nat.le_refl _) hki2 hk hltj
              have hzi := HLj.out.tab.cellZ hlt hltj
              have hzk := HLj.out.tab.cellZ hk hltj
              have hzf := (HLj.out.tab.row i hlt).frozen j
              rw [show (⟨Z', S1.o, S1.s⟩ : El).E = Z' from rfl, hEi] at hzi
              rw [show (⟨Z', S1.o, S1.s⟩ : El).E = Z' from rfl, hEk] at hzk
              have hmul : ∀ V, Below wj.heap.size wj V → Calls Tryz.prog 79 #[.complex .f64 zf.1 zf.2, .complex .f64 (S1.E k j).1 (S1.E k j).2] V (FromZ (pMul F (S1.E k j)) wj.heap.size wj) := fun V hV => by
                have h := rMul_c zf.1 zf.2 (S1.E k j).1 (S1.E k j).2 V
                have f2 := fin_cn1 (HF1.out k j hk hltj)
                rw [show (cn .f64 zf.1, cn .f64 zf.2) = F from HZf.out, f2.1, f2.2] at h
                exact from_c h hV
              have hsub : ∀ V (m : C), cnC m = pMul F (S1.E k j) → Below wj.heap.size wj V → Calls Tryz.prog 78 #[.complex .f64 (S1.E i j).1 (S1.E i j).2, .complex .f64 m.1 m.2] V (FromZ (elE S1.E k i j) wj.heap.size wj) := fun V m hm hV => by
                have h := rSub_c (S1.E i j).1 (S1.E i j).2 m.1 m.2 V
                have f2 := fin_cn1 (HF1.out i j hlt hltj)
                rw [show (cn .f64 m.1, cn .f64 m.2) = pMul F (S1.E k j) from hm, f2.1, f2.2] at h
                rw [elE_new hki2 hkj, HFe.out]
                exact from_c h hV
              have hkp : ∀ V, Below wj.heap.size wj V → V.cell? ⟨b, 1, none⟩ = some (.slice (some ⟨q, 0, none⟩) n qc) ∧ V.cell? ⟨q, i, none⟩ = some (.slice (some ⟨g' i, 0, none⟩) n (c' i)) ∧ V.cell? ⟨q, k, none⟩ = some (.slice (some ⟨g' k, 0, none⟩) n (c' k)) ∧ V.cell? ⟨g' k, j, none⟩ = some (.complex .f64 (S1.E k j).1 (S1.E k j).2) := fun V hV =>
                have go : ∀ {p : Addr} {v : Value}, wj.cell? p = some v → V.cell? p = some v := fun h => (hV.cell (block_lt_of_cell h)).trans h
                ⟨go y1, go hqi, go hqk, go hzk⟩
              have hkc : ∀ V, Below wj.heap.size wj V → V.cell? ⟨g' i, j, none⟩ = some (.complex .f64 (S1.E i j).1 (S1.E i j).2) ∧ V.frozen? ⟨g' i, j, none⟩ = false := fun V hV =>
                ⟨(hV.cell (p := ⟨g' i, j, none⟩) (HLj.out.tab.row i hlt).lt).trans hzi, (hV.frozen (p := ⟨g' i, j, none⟩) (HLj.out.tab.row i hlt).lt).trans hzf⟩
              have HMul := Lib.hid hmul
              have HSub := Lib.hid hsub
              have HKP := Lib.hid hkp
              have HKC := Lib.hid hkc
              clear hmul hsub hkp hkc hEi hEk hqk hqi hzk
              go_upto_region 31 with fail
              go_cut [] (fun wx => PutC B b q p n qc pc g' c' S1 Z' t3 k i j w wx)
              case first =>
                refine wp_region_Kq 32 (by kernel_rfl) (Below wj.heap.size wj) (by kernel_rfl) (fun _ _ _ _ _ h => h) (fun hsel hcl hq => ?_)
                have hW0 := (Below.refl wj.heap.size wj).drew
                refine wpAnyK_takeFreeQ (i := 0) (v := ?vc0) rfl hsel hcl (by kernel_rfl) (by kernel_rfl) rfl hq rfl rfl hW0 ?hyc0 (fun hcl => ?hc0)
                case hyc0 => (intro w'; go_simp; first | done | with_reducible rfl)
                simp -implicitDefEqProofs only [Act.put, List.setIfInBounds_toArray, List.set_cons_zero, List.set_cons_succ]
                refine wpAnyK_takeFreeQ (i := 1) (v := ?vc1) rfl hsel hcl (by kernel_rfl) (by kernel_rfl) rfl hq rfl rfl hW0 ?hyc1 (fun hcl => ?hc1)
                case hyc1 => (intro w'; go_simp; first | done | with_reducible rfl)
                simp -implicitDefEqProofs only [Act.put, List.setIfInBounds_toArray, List.set_cons_zero, List.set_cons_succ]
                refine wpAnyK_takeFreeQ (i := 2) (v := ?vc2) rfl hsel hcl (by kernel_rfl) (by kernel_rfl) rfl hq rfl rfl hW0 ?hyc2 (fun hcl => ?hc2)
                case hyc2 => (intro w'; go_simp; first | done | with_reducible rfl)
                simp -implicitDefEqProofs only [Act.put, List.setIfInBounds_toArray, List.set_cons_zero, List.set_cons_succ]
                refine wpAnyK_takeNeedQ [31, 6, 5] (i := 3) (v := ?vc3) rfl hsel hcl (by kernel_rfl) (by kernel_rfl) rfl (by decide +kernel) hq rfl rfl hW0 ?hyc3 (fun hcl => ?hc3)
                case hyc3 => ((intro V0 hV0; have e1 := HKP.out V0 hV0; have e2 := HKC.out V0 hV0); go_simp; first | done | with_reducible rfl)
                simp -implicitDefEqProofs only [Act.put, List.setIfInBounds_toArray, List.set_cons_zero, List.set_cons_succ]
                refine wpAnyK_takeFreeQ (i := 4) (v := ?vc4) rfl hsel hcl (by kernel_rfl) (by kernel_rfl) rfl hq rfl rfl hW0 ?hyc4 (fun hcl => ?hc4)
                case hyc4 => (intro w'; go_simp; first | done | with_reducible rfl)
                simp -implicitDefEqProofs only [Act.put, List.setIfInBounds_toArray, List.set_cons_zero, List.set_cons_succ]
                refine wpAnyK_takeFreeQ (i := 5) (v := ?vc5) rfl hsel hcl (by kernel_rfl) (by kernel_rfl) rfl hq rfl rfl hW0 ?hyc5 (fun hcl => ?hc5)
                case hyc5 => (intro w'; go_simp; first | done | with_reducible rfl)
                simp -implicitDefEqProofs only [Act.put, List.setIfInBounds_toArray, List.set_cons_zero, List.set_cons_succ]
                refine wpAnyK_takeNeedQ [31] (i := 6) (v := ?vc6) rfl hsel hcl (by kernel_rfl) (by kernel_rfl) rfl (by decide +kernel) hq rfl rfl hW0 ?hyc6 (fun hcl => ?hc6)
                case hyc6 => ((intro V0 hV0; have e1 := HKP.out V0 hV0; have e2 := HKC.out V0 hV0); go_simp; first | done | with_reducible rfl)
                simp -implicitDefEqProofs only [Act.put, List.setIfInBounds_toArray, List.set_cons_zero, List.set_cons_succ]
                refine wpAnyK_takeFreeQ (i := 7) (v := ?vc7) rfl hsel hcl (by kernel_rfl) (by kernel_rfl) rfl hq rfl rfl hW0 ?hyc7 (fun hcl => ?hc7)
                case hyc7 => (intro w'; go_simp; first | done | with_reducible rfl)
                simp -implicitDefEqProofs only [Act.put, List.setIfInBounds_toArray, List.set_cons_zero, List.set_cons_succ]
                refine wpAnyK_takeFreeQ (i := 8) (v := ?vc8) rfl hsel hcl (by kernel_rfl) (by kernel_rfl) rfl hq rfl rfl hW0 ?hyc8 (fun hcl => ?hc8)
                case hyc8 => (intro w'; go_simp; first | done | with_reducible rfl)
                simp -implicitDefEqProofs only [Act.put, List.setIfInBounds_toArray, List.set_cons_zero, List.set_cons_succ]
                refine wpAnyK_takeFreeQ (i := 9) (v := ?vc9) rfl hsel hcl (by kernel_rfl) (by kernel_rfl) rfl hq rfl rfl hW0 ?hyc9 (fun hcl => ?hc9)
                case hyc9 => (intro w'; go_simp; first | done | with_reducible rfl)
                simp -implicitDefEqProofs only [Act.put, List.setIfInBounds_toArray, List.set_cons_zero, List.set_cons_succ]
                refine wpAnyK_takeFreeQ (i := 10) (v := ?vc10) rfl hsel hcl (by kernel_rfl) (by kernel_rfl) rfl hq rfl rfl hW0 ?hyc10 (fun hcl => ?hc10)
                case hyc10 => (intro w'; go_simp; first | done | with_reducible rfl)
                simp -implicitDefEqProofs only [Act.put, List.setIfInBounds_toArray, List.set_cons_zero, List.set_cons_succ]
                refine wpAnyK_takeNeedQ [30, 17, 16, 14, 13] (i := 11) (v := ?vc11) rfl hsel hcl (by kernel_rfl) (by kernel_rfl) rfl (by decide +kernel) hq rfl rfl hW0 ?hyc11 (fun hcl => ?hc11)
                case hyc11 => ((intro V0 hV0; have e1 := HKP.out V0 hV0; have e2 := HKC.out V0 hV0); go_simp; first | done | with_reducible rfl)
                simp -implicitDefEqProofs only [Act.put, List.setIfInBounds_toArray, List.set_cons_zero, List.set_cons_succ]
                refine wpAnyK_takeFreeQ (i := 12) (v := ?vc12) rfl hsel hcl (by kernel_rfl) (by kernel_rfl) rfl hq rfl rfl hW0 ?hyc12 (fun hcl => ?hc12)
                case hyc12 => (intro w'; go_simp; first | done | with_reducible rfl)
                simp -implicitDefEqProofs only [Act.put, List.setIfInBounds_toArray, List.set_cons_zero, List.set_cons_succ]
                refine wpAnyK_takeFreeQ (i := 13) (v := ?vc13) rfl hsel hcl (by kernel_rfl) (by kernel_rfl) rfl hq rfl rfl hW0 ?hyc13 (fun hcl => ?hc13)
                case hyc13 => (intro w'; go_simp; first | done | with_reducible rfl)
                simp -implicitDefEqProofs only [Act.put, List.setIfInBounds_toArray, List.set_cons_zero, List.set_cons_succ]
                refine wpAnyK_takeNeedQ [30, 17, 16] (i := 14) (v := ?vc14) rfl hsel hcl (by kernel_rfl) (by kernel_rfl) rfl (by decide +kernel) hq rfl rfl hW0 ?hyc14 (fun hcl => ?hc14)
                case hyc14 => ((intro V0 hV0; have e1 := HKP.out V0 hV0; have e2 := HKC.out V0 hV0); go_simp; first | done | with_reducible rfl)
                simp -implicitDefEqProofs only [Act.put, List.setIfInBounds_toArray, List.set_cons_zero, List.set_cons_succ]
                refine wpAnyK_takeFreeQ (i := 15) (v := ?vc15) rfl hsel hcl (by kernel_rfl) (by kernel_rfl) rfl hq rfl rfl hW0 ?hyc15 (fun hcl => ?hc15)
                case hyc15 => (intro w'; go_simp; first | done | with_reducible rfl)
                simp -implicitDefEqProofs only [Act.put, List.setIfInBounds_toArray, List.set_cons_zero, List.set_cons_succ]
                refine wpAnyK_takeFreeQ (i := 16) (v := ?vc16) rfl hsel hcl (by kernel_rfl) (by kernel_rfl) rfl hq rfl rfl hW0 ?hyc16 (fun hcl => ?hc16)
                case hyc16 => (intro w'; go_simp; first | done | with_reducible rfl)
                simp -implicitDefEqProofs only [Act.put, List.setIfInBounds_toArray, List.set_cons_zero, List.set_cons_succ]
                refine wpAnyK_takeNeedQ [30] (i := 17) (v := ?vc17) rfl hsel hcl (by kernel_rfl) (by kernel_rfl) rfl (by decide +kernel) hq rfl rfl hW0 ?hyc17 (fun hcl => ?hc17)
                case hyc17 => ((intro V0 hV0; have e1 := HKP.out V0 hV0; have e2 := HKC.out V0 hV0); go_simp; first | done | with_reducible rfl)
                simp -implicitDefEqProofs only [Act.put, List.setIfInBounds_toArray, List.set_cons_zero, List.set_cons_succ]
                refine wpAnyK_takeFreeQ (i := 18) (v := ?vc18) rfl hsel hcl (by kernel_rfl) (by kernel_rfl) rfl hq rfl rfl hW0 ?hyc18 (fun hcl => ?hc18)
                case hyc18 => (intro w'; go_simp; first | done | with_reducible rfl)
                simp -implicitDefEqProofs only [Act.put, List.setIfInBounds_toArray, List.set_cons_zero, List.set_cons_succ]
                refine wpAnyK_takeFreeQ (i := 19) (v := ?vc19) rfl hsel hcl (by kernel_rfl) (by kernel_rfl) rfl hq rfl rfl hW0 ?hyc19 (fun hcl => ?hc19)
                case hyc19 => (intro w'; go_simp; first | done | with_reducible rfl)
                simp -implicitDefEqProofs only [Act.put, List.setIfInBounds_toArray, List.set_cons_zero, List.set_cons_succ]
                refine wpAnyK_takeFreeQ (i := 20) (v := ?vc20) rfl hsel hcl (by kernel_rfl) (by kernel_rfl) rfl hq rfl rfl hW0 ?hyc20 (fun hcl => ?hc20)
                case hyc20 => (intro w'; go_simp; first | done | with_reducible rfl)
                simp -implicitDefEqProofs only [Act.put, List.setIfInBounds_toArray, List.set_cons_zero, List.set_cons_succ]
                refine wpAnyK_takeFreeQ (i := 21) (v := ?vc21) rfl hsel hcl (by kernel_rfl) (by kernel_rfl) rfl hq rfl rfl hW0 ?hyc21 (fun hcl => ?hc21)
                case hyc21 => (intro w'; go_simp; first | done | with_reducible rfl)
                simp -implicitDefEqProofs only [Act.put, List.setIfInBounds_toArray, List.set_cons_zero, List.set_cons_succ]
                refine wpAnyK_takeNeedQ [30, 29, 28, 27, 25, 24] (i := 22) (v := ?vc22) rfl hsel hcl (by kernel_rfl) (by kernel_rfl) rfl (by decide +kernel) hq rfl rfl hW0 ?hyc22 (fun hcl => ?hc22)
                case hyc22 => ((intro V0 hV0; have e1 := HKP.out V0 hV0; have e2 := HKC.out V0 hV0); go_simp; first | done | with_reducible rfl)
                simp -implicitDefEqProofs only [Act.put, List.setIfInBounds_toArray, List.set_cons_zero, List.set_cons_succ]
                refine wpAnyK_takeFreeQ (i := 23) (v := ?vc23) rfl hsel hcl (by kernel_rfl) (by kernel_rfl) rfl hq rfl rfl hW0 ?hyc23 (fun hcl => ?hc23)
                case hyc23 => (intro w'; go_simp; first | done | with_reducible rfl)
                simp -implicitDefEqProofs only [Act.put, List.setIfInBounds_toArray, List.set_cons_zero, List.set_cons_succ]
                refine wpAnyK_takeFreeQ (i := 24) (v := ?vc24) rfl hsel hcl (by kernel_rfl) (by kernel_rfl) rfl hq rfl rfl hW0 ?hyc24 (fun hcl => ?hc24)
                case hyc24 => (intro w'; go_simp; first | done | with_reducible rfl)
                simp -implicitDefEqProofs only [Act.put, List.setIfInBounds_toArray, List.set_cons_zero, List.set_cons_succ]
                refine wpAnyK_takeNeedQ [30, 29, 28, 27] (i := 25) (v := ?vc25) rfl hsel hcl (by kernel_rfl) (by kernel_rfl) rfl (by decide +kernel) hq rfl rfl hW0 ?hyc25 (fun hcl => ?hc25)
                case hyc25 => ((intro V0 hV0; have e1 := HKP.out V0 hV0; have e2 := HKC.out V0 hV0); go_simp; first | done | with_reducible rfl)
                simp -implicitDefEqProofs only [Act.put, List.setIfInBounds_toArray, List.set_cons_zero, List.set_cons_succ]
                refine wpAnyK_takeFreeQ (i := 26) (v := ?vc26) rfl hsel hcl (by kernel_rfl) (by kernel_rfl) rfl hq rfl rfl hW0 ?hyc26 (fun hcl => ?hc26)
                case hyc26 => (intro w'; go_simp; first | done | with_reducible rfl)
                simp -implicitDefEqProofs only [Act.put, List.setIfInBounds_toArray, List.set_cons_zero, List.set_cons_succ]
                refine wpAnyK_takeFreeQ (i := 27) (v := ?vc27) rfl hsel hcl (by kernel_rfl) (by kernel_rfl) rfl hq rfl rfl hW0 ?hyc27 (fun hcl => ?hc27)
                case hyc27 => (intro w'; go_simp; first | done | with_reducible rfl)
                simp -implicitDefEqProofs only [Act.put, List.setIfInBounds_toArray, List.set_cons_zero, List.set_cons_succ]
                refine wpAnyK_takeNeedQ [30, 29] (i := 28) (v := ?vc28) rfl hsel hcl (by kernel_rfl) (by kernel_rfl) rfl (by decide +kernel) hq rfl rfl hW0 ?hyc28 (fun hcl => ?hc28)
                case hyc28 => ((intro V0 hV0; have e1 := HKP.out V0 hV0; have e2 := HKC.out V0 hV0); go_simp; first | done | with_reducible rfl)
                simp -implicitDefEqProofs only [Act.put, List.setIfInBounds_toArray, List.set_cons_zero, List.set_cons_succ]
                refine wpAnyK_one (i := 29) rfl (by decide +kernel) rfl rfl ?_
                go_simp
                refine (HMul.out _ hW0).mono ?_
                rintro e V ⟨m, rfl, hm, lm, hV⟩
                refine ⟨hV, ?_⟩
                clear hW0
                refine wpAnyK_one (i := 30) rfl (by decide +kernel) rfl rfl ?_
                go_simp
                refine (HSub.out _ _ hm hV).mono ?_
                rintro e V' ⟨z, rfl, hz, lz, hV'⟩
                refine ⟨hV', ?_⟩
                clear hV hm lm
                obtain ⟨e4, e5⟩ := HKC.out V' hV'
                refine wpAnyK_one (i := 31) rfl (by decide +kernel) rfl rfl ?_
                go_simp
                try (refine ⟨hV', ?_⟩)
                refine wpAnyK_store (st := 32) rfl (by decide +kernel) rfl ?_
                go_simp
                refine wpAny_done (by decide +kernel) ?_ _
                all_goals
                  have HZz := Lib.hid hz
                  have HVV := Lib.hid hV'
                  have LZz := Lib.hid lz
                  clear hz hV' lz
                  go_wp2_with fail
                  go_meet
                  refine ⟨z, HZz.out, LZz.out, ?_, ?_⟩
                  · have h := HLj.out.below HVV.out
                    exact h.set hlt hltj LZz.out
                  · exact (HBj.out.trans (HVV.out.mono (Nat.le_trans HB.out HBj.out.size))).setCell (HLj.out.tab.gB i hlt) _
              case rest =>
                obtain ⟨z, hz, lz, hLo, hBel⟩ := hcut
                rename World => wk
                have HZz := Lib.hid hz
                have HLk := Lib.hid hLo
                have HBk := Lib.hid hBel
                obtain ⟨-, y1, -, -, -, -, -⟩ := box6 hLo.box
                have hqi := hLo.tab.cellS hlt
                have hcz := hLo.tab.cellZ hlt hltj
                rw [show (⟨upd Z' i j z, S1.o, S1.s⟩ : El).E = upd Z' i j z from rfl, upd_same] at hcz
                obtain ⟨f2, hf2⟩ : ∃ x, pFinite (elE S1.E k i j) = x := ⟨_, rfl⟩
                have hfi := rFinite_c z.1 z.2 lz.1 lz.2
                rw [show (cn .f64 z.1, cn .f64 z.2) = elE S1.E k i j from hz, hf2] at hfi
                have HFi := Lib.hid hfi
                have HF2 := Lib.hid hf2
                clear hz lz hLo hBel hfi hf2 HMul HSub HKP HKC HLj HBj hzi hzf
                have hfr : (f0 && fineRow (elE S1.E k) k i (j + 1 - (k + 1))) = (f1 && f2) := by
                  rw [← HF1r.out, ← HF2.out, show j + 1 - (k + 1) = (j - (k + 1)) + 1 by omega, fineRow, show k + 1 + (j - (k + 1)) = j by omega, Bool.and_assoc]
                have HFr := Lib.hid hfr
                clear hfr
                cases f1
                · go_wp2
                  go_roundw
                  case rel =>
                    refine ⟨j + 1, upd Z' i j z, by omega, hltj, by go_num, ?_, HLk.out, HRow.out.next hkj (.inr HZz.out), HBk.out⟩
                    rw [HFr.out]; rfl
                  case measure => simp [intOf]; omega
                · go_wp2_with fail
                  refine (HFi.out _).mono ?_
                  rintro e w' ⟨d, rfl, rfl⟩
                  go_wp2
                  go_roundw
                  case rel =>
                    refine ⟨j + 1, upd Z' i j z, by omega, hltj, by go_num, ?_, HLk.out.below (below_drewN (Below.refl _ _) _), HRow.out.next hkj (.inr HZz.out), below_drewN HBk.out _⟩
                    rw [HFr.out]; rfl
                  case measure => simp [intOf]; omega
            · have e : n = j := by omega
              subst e
              have hqi := HLj.out.tab.cellS hlt
              have hci := HLj.out.tab.cellZ hlt hk
              have hcf := (HLj.out.tab.row i hlt).frozen k
              go_wp2
              go_roundw
              case rel =>
                refine ⟨i + 1, upd Z' i k zf, by omega, hlt, by go_num, ?_, HLj.out.set hlt hk LZf.out, HRow.out.finish hki2 (.inr (by rw [elE_fac hki2, HFe.out]; exact HZf.out)), HBj.out.setCell (HLj.out.tab.gB i hlt) _⟩
                rw [← HF1r.out, ← HF0.out, show i + 1 - (k + 1) = (i - (k + 1)) + 1 by omega, fineTo, show k + 1 + (i - (k + 1)) = i by omega]
              case measure => simp [intOf]; omega
    · have e : n = i := by omega
      subst e
      have he : elErr n k S = if f0 then 0 else 6 := by
        unfold elErr elNil elPiv
        rw [HNl.out, HV.out, ← HS1.out, ← HF0.out]; rfl
      have hst : elStep n k S = elNext k S1 := by
        unfold elStep elPiv
        rw [HV.out, ← HS1.out]
      have HE := Lib.hid he
      have HSt := Lib.hid hst
      clear he hst
      cases f0
      · go_wp2
        go_ret
        refine ⟨by rw [HE.out]; rfl, HBi.out, fun h => ?_⟩
        rw [HE.out] at h; cases h
      · go_wp2
        go_ret
        refine ⟨by rw [HE.out]; rfl, HBi.out, fun h => ⟨g', c', t3, ?_, HNt.out⟩⟩
        rw [HSt.out]
        exact { HLi.out with tab := HLi.out.tab.congr fun a b ha hb => HEl.out.done HF1.out hk HF0.out a b ha hb }
theorem column_c9 (B b q p n qc pc k : Nat) (g c : Nat → Nat) (S : El) (ti : Bool) (w : World) (hn : n ≤ 64) (hk : k < n) (hL : rLo w B b q p n qc pc g c S ti) (hf : finTo S.E n) (hB : B ≤ w.heap.size) :
    Calls Tryz.prog 42 #[.pointer (some ⟨b, 0, none⟩), .int .i64 (k : Nat)] w (RetCol n k B b q p qc pc S ti w) :=
  (colA9 B b q p n qc pc k g c S ti w).2 ⟨colB9 B b q p n qc pc k g c S ti w⟩ hn hk hL hf hB
end Go.Proofs.YtandllekeimpgaaGreat
