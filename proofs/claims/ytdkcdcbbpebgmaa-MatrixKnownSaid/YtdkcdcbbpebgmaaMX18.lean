/- Layer 7: matrices that are the same, equal; lists that are equal, finite. -/
import Derived.Test.YtdkcdcbbpebgmaaMX15
import Derived.Test.YtdkcdcbbpebgmaaMX14
namespace Go.Proofs.Ytdkcdcbbpebgmaa
open Go.RowKit Fl Ieee
set_option maxRecDepth 20000
attribute [local go_sem] run_store_float run_store_complex Fl.order_self Fl.order_self' Fl.order_eq Fl.order_ne Fl.order_lt Fl.order_gt
set_option maxHeartbeats 1000000 in
theorem EqualNumbers_t (A B : Option Addr) (l m : List C) (n c c' : Nat) (w : World) (hn : l.length = n) (hm : m.length = n) (h : ∀ (k : Nat) (x y : C), l[k]? = some x → m[k]? = some y → pEqual (cnC x) (cnC y) = true) (hmax : n ≤ 4611686018427387904)
    (hA : Reads w w.heap.size A (nums l)) (hB : Reads w w.heap.size B (nums m)) :
    Calls Try.prog 90 #[.slice A n c, .slice B n c'] w (RetB true w) := by
  have HA := Lib.hid hA
  have HB := Lib.hid hB
  have HH := Lib.hid h
  have HN := Lib.hid hn
  have HM := Lib.hid hm
  clear hA hB h hn hm
  go_enter Try.func90, Try.ntmps90
  go_wp2
  go_loopw [5] (fun i wr => SameN l w i wr) (fun i _ => n - (intOf i).toNat)
  case atStart => exact ⟨0, 0, Nat.zero_le _, rfl, rfl⟩
  case round =>
    obtain ⟨k, d, hk, rfl, rfl⟩ := hrel
    have hkn : k ≤ n := by rw [← HN.out]; exact hk
    clear hk
    by_cases hlt : k < n
    · obtain ⟨x, hx⟩ := some_of_lt (l := l) (k := k) (by rw [HN.out]; exact hlt)
      obtain ⟨y, hy⟩ := some_of_lt (l := m) (k := k) (by rw [HM.out]; exact hlt)
      have e := HH.out k x y hx hy
      unfold pEqual at e
      rw [Bool.and_eq_true, feq_cn, feq_cn] at e
      have e1 := e.1
      have e2 := e.2
      have hxv : (nums l)[k]? = some (.complex .f64 x.1 x.2) := by simp [nums, hx]
      have hyv : (nums m)[k]? = some (.complex .f64 y.1 y.2) := by simp [nums, hy]
      obtain ⟨ad, rfl, _, hc1⟩ := HA.out.at_ hxv
      obtain ⟨bd, rfl, _, hc2⟩ := HB.out.at_ hyv
      clear hx hy hxv hyv e
      go_wp2
      go_quiet (fail)
      go_wp2
      go_roundw
      case rel => exact ⟨k + 1, _, by rw [HN.out]; omega, by go_num, rfl⟩
      case measure => simp [intOf]; omega
    · go_wp2
      go_ret
      exact closeB rfl
theorem kFinite_c (x : Nat) (hx : x < 18446744073709551616) (w : World) :
    Calls Try.prog 102 #[.float .f64 x] w (RetB (isFin double x) w) := by
  go_enter Try.func102, Try.ntmps102
  go_wp2_with fail
  refine upon_sub _ _ _ _ ?_
  intro r1 n1 h1
  have f1 := fin_of_sub hx h1
  cases hd : isFin double x
  · rw [hd] at f1
    go_wp2
    go_ret; exact closeB hd.symm
  · rw [hd] at f1
    go_wp2
    go_ret; exact closeB hd.symm
def finC (z : C) : Bool := isFin double z.1 && isFin double z.2
def FinR (l : List C) (w : World) (i : Value) (wr : World) : Prop := ∃ k m : Nat, k ≤ l.length ∧ i = .int .i64 (k : Nat) ∧ (∀ j z, j < k → l[j]? = some z → finC z = true) ∧ wr = w.drewN m
set_option maxHeartbeats 1000000 in
theorem FiniteNumbers_c (A : Option Addr) (l : List C) (c : Nat) (w : World) (hlt : ltCs l) (hmax : l.length ≤ 4611686018427387904) (hA : Reads w w.heap.size A (nums l)) :
    Calls Try.prog 92 #[.slice A l.length c] w (RetB (l.all finC) w) := by
  have HA := Lib.hid hA
  have HLt := Lib.hid hlt
  clear hA hlt
  go_enter Try.func92, Try.ntmps92
  go_wp2
  go_loopw [3] (fun i wr => FinR l w i wr) (fun i _ => l.length - (intOf i).toNat)
  case atStart => exact ⟨0, 0, Nat.zero_le _, rfl, fun j z hj => absurd hj (Nat.not_lt_zero _), rfl⟩
  case round =>
    obtain ⟨k, d, hk, rfl, hall, rfl⟩ := hrel
    have HAll := Lib.hid hall
    clear hall
    by_cases hlt : k < l.length
    · obtain ⟨x, hx⟩ := some_of_lt (l := l) (k := k) hlt
      have hxv : (nums l)[k]? = some (.complex .f64 x.1 x.2) := by simp [nums, hx]
      obtain ⟨ad, rfl, _, hc1⟩ := HA.out.at_ hxv
      have hz := HLt.out x (List.mem_of_getElem? hx)
      have HX := Lib.hid hx
      have K1 := Lib.hid (kFinite_c x.1 hz.1)
      have K2 := Lib.hid (kFinite_c x.2 hz.2)
      have hfc : ∀ b, (isFin double x.1 && isFin double x.2) = b → finC x = b := fun b h => h
      have HF := Lib.hid hfc
      have hbad : finC x = false → l.all finC = false := fun h => by
        rw [Bool.eq_false_iff]; intro h1
        have := List.all_eq_true.1 h1 x (List.mem_of_getElem? HX.out)
        rw [h] at this; cases this
      have HBad := Lib.hid hbad
      clear hx hxv hz hfc hbad
      go_wp2_with fail
      refine (K1.out _).mono ?_
      rintro e w' ⟨n1, rfl, rfl⟩
      cases h1 : isFin double x.1
      · go_wp2
        go_ret
        exact ⟨_, ret_bool (HBad.out (HF.out _ (by rw [h1]; rfl))).symm, rfl⟩
      · go_wp2_with fail
        refine (K2.out _).mono ?_
        rintro e w' ⟨n2, rfl, rfl⟩
        cases h2 : isFin double x.2
        · go_wp2
          go_ret
          exact ⟨_, ret_bool (HBad.out (HF.out _ (by rw [h1, h2]; rfl))).symm, rfl⟩
        · have HG := Lib.hid (HF.out _ (show (isFin double x.1 && isFin double x.2) = true by rw [h1, h2]; rfl))
          go_wp2
          go_roundw
          case rel =>
            refine ⟨k + 1, _, hlt, by go_num, fun j z hj hz => ?_, rfl⟩
            rcases Nat.lt_or_ge j k with h | h
            · exact HAll.out j z h hz
            · have : j = k := by omega
              subst this
              rw [HX.out] at hz
              injection hz with hz; subst hz; exact HG.out
          case measure => simp [intOf]; omega
    · have e : k = l.length := by omega
      subst e
      have ht : l.all finC = true := by
        rw [List.all_eq_true]; intro z hz
        obtain ⟨j, hj⟩ := List.getElem?_of_mem hz
        exact HAll.out j z (lt_of_some hj) hj
      go_wp2
      go_ret
      exact ⟨_, ret_bool ht.symm, rfl⟩
theorem same_enters (args : Array Value) (W : World) : (callFunc 89 args).run Try.prog W = .ok (.enter 89 args) W :=
  enters_of Try.func89 (by kernel_rfl) rfl args W
theorem MEqual_of (ra ca rb cb : Int) (A B : Option Addr) (na nb capa capb : Nat) (b : Bool) (w : World)
    (hB : ∀ V, Below w.heap.size w V → Calls Try.prog 87 #[mval ra ca (.slice A na capa), mval rb cb (.slice B nb capb), .func (.func 89) #[] #[]] V (RetBB b V)) :
    Calls Try.prog 44 #[mval ra ca (.slice A na capa), mval rb cb (.slice B nb capb)] w (RetBB b w) := by
  have HC := Lib.hid hB
  clear hB
  have hb0 : Below w.heap.size w ((w.alloc (.cells #[.int .i64 ra, .int .i64 ca, .slice A na capa] 28)).alloc (.cells #[.int .i64 rb, .int .i64 cb, .slice B nb capb] 28)) :=
    ((Below.refl _ w).new (Nat.le_refl _) _).new (Nat.le_refl _) _
  have HB0 := Lib.hid hb0
  clear hb0
  go_enter Try.func44, Try.ntmps44
  go_wp2_with fail
  refine (HC.out _ HB0.out).mono ?_
  rintro e W1 ⟨rfl, hb⟩
  have HB := Lib.hid (HB0.out.trans (hb.mono HB0.out.size))
  clear hb
  go_wp2
  go_ret
  exact ⟨rfl, HB.out⟩
theorem MEqual_c (r c : Int) (A B : Option Addr) (la lb : List C) (capa capb : Nat) (w : World) (hoa : okM r c la.length = true) (hob : okM r c lb.length = true)
    (hA : Reads w w.heap.size A (nums la)) (hB : Reads w w.heap.size B (nums lb)) :
    Calls Try.prog 44 #[mval r c (.slice A la.length capa), mval r c (.slice B lb.length capb)] w (RetBB (allLike pEqual la lb) w) :=
  MEqual_of r c r c A B la.length lb.length capa capb _ w fun V hV =>
    held_c 89 pEqual same_enters (fun p q V => Equal_c p.1 p.2 q.1 q.2 V) r c A B la lb capa capb V hoa hob ((hA.below hV).more hV.size) ((hB.below hV).more hV.size)
end Go.Proofs.Ytdkcdcbbpebgmaa
