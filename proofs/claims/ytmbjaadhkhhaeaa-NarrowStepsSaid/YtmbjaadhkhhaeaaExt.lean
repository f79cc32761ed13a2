/- The library's functions without a body, and comparisons of floats, in the walk's form. -/
import Derived.Test.YtmbjaadhkhhaeaaFlA
import Derived.Test.YtmbjaadhkhhaeaaChecked
import Derived.KernelRfl
import Derived.Deep.QuietTactic
import Derived.BigQuiet
import Derived.Deep.RegionHeld3
import Derived.Test.YtmbjaadhkhhaeaaRows
import Derived.ProofKit
import Derived.OpenShut
import Derived.Lib.SmallJoins
import Derived.WalkKit
import Derived.Maps.AppendAt
import Derived.Below
import Derived.Laws.OwnMore
import Derived.Deep.AppendLies
import Derived.Deep.Draws
import Derived.Lib.Hide
import Derived.ChangeSame
import Derived.ChangeVars
namespace Go.Proofs.Ytmbjaadhkhhaeaa
open Go.RowKit Fl Ieee
theorem grown_drewN (w : World) (n : Nat) : Grown w (w.drewN n) := by
  induction n with
  | zero => exact Grown.refl w
  | succ n ih =>
    have e : w.drewN (n + 1) = (w.drewN n).drew := rfl
    rw [e]; exact ih.drew
theorem grown_dn {W w : World} (h : Grown W w) (n : Nat) : Grown W (w.drewN n) := by
  induction n with
  | zero => exact h
  | succ n ih =>
    have e : w.drewN (n + 1) = (w.drewN n).drew := rfl
    rw [e]; exact ih.drew
theorem grown_ad (w : World) (cs : Array Value) (t : TypeId) (n : Nat) : Grown w ((w.alloc (.cells cs t)).drewN n) := by
  induction n with
  | zero => apply Grown.alloc; exact Grown.refl w
  | succ n ih =>
    have e : (w.alloc (.cells cs t)).drewN (n + 1) = ((w.alloc (.cells cs t)).drewN n).drew := rfl
    rw [e]; exact ih.drew
section
variable {P : Program} {w : World} {a : Addr} {m : Mode}
theorem run_store_float (k : FloatKind) (b : Nat) : (store a (.float k b) m).run P w = stored P w a (.float k b) m := run_store P w a _ m rfl
theorem run_store_complex (k : FloatKind) (b c : Nat) : (store a (.complex k b c) m).run P w = stored P w a (.complex k b c) m := run_store P w a _ m rfl
end
theorem x_f32frombits (n : Int) (w : World) : (callFunc 25 #[.int .u32 n]).run Try.prog w = .ok (.value (.float .f32 n.toNat)) w := by kernel_rfl
theorem x_f32bits (n : Nat) (w : World) : (callFunc 60 #[.float .f32 n]).run Try.prog w = .ok (.value (.int .u32 n)) w := by kernel_rfl
theorem x_f64frombits (n : Int) (w : World) : (callFunc 52 #[.int .u64 n]).run Try.prog w = .ok (.value (.float .f64 n.toNat)) w := by kernel_rfl
theorem x_f64bits (n : Nat) (w : World) : (callFunc 73 #[.float .f64 n]).run Try.prog w = .ok (.value (.int .u64 n)) w := by kernel_rfl
theorem x_sqrt (x : Nat) (w : World) : (callFunc 75 #[.float .f64 x]).run Try.prog w = ((Extern.MathSqrt.sqrt #[.float .f64 x]).run Try.prog w).andThen fun v w' => .ok (.value v) w' :=
  run_callFunc_extern (e := Extern.MathSqrt.sqrt) (P := Try.prog) (f := 75) Try.func75 (by kernel_rfl) (by kernel_rfl) (by kernel_rfl) (by kernel_rfl) _ w
end Go.Proofs.Ytmbjaadhkhhaeaa
namespace Go.Proofs.Ytmbjaadhkhhaeaa
open Go.RowKit Fl Ieee
set_option maxRecDepth 20000
attribute [local go_sem] x_f64frombits
attribute [local go_sem] x_f64bits
attribute [local go_sem] Fl.order_self Fl.order_self' Fl.order_eq Fl.order_ne Fl.order_lt Fl.order_gt Fl.fle_fold Fl.fge_fold Fl.u64_clear Fl.u64_sign Fl.u64_flip Fl.u64_or_sign Fl.u32_clear Fl.negFloat_flip

/-- A complex number that is v up to NaN is handed back; the world is as it was but for draws. -/
def RetC (v : C) (w : World) (e : Ending) (w' : World) : Prop :=
  ∃ x y n, e = .returned (.complex .f64 x y) ∧ (cn .f64 x, cn .f64 y) = v ∧ x < 18446744073709551616 ∧ y < 18446744073709551616 ∧ w' = w.drewN n
def RetR (v : Nat) (w : World) (e : Ending) (w' : World) : Prop :=
  ∃ x n, e = .returned (.float .f64 x) ∧ cn .f64 x = v ∧ x < 18446744073709551616 ∧ w' = w.drewN n
def RetB (b : Bool) (w : World) (e : Ending) (w' : World) : Prop := ∃ n, e = .returned (.bool b) ∧ w' = w.drewN n
theorem closeC {v : C} {x y n : Nat} {w : World} (h1 : cn .f64 x = v.1) (h2 : cn .f64 y = v.2) (hx : x < 18446744073709551616) (hy : y < 18446744073709551616) :
    RetC v w (.returned (.complex .f64 x y)) (w.drewN n) := ⟨x, y, n, rfl, by rw [h1, h2], hx, hy, rfl⟩
theorem closeC0 {v : C} {x y : Nat} {w : World} (h1 : cn .f64 x = v.1) (h2 : cn .f64 y = v.2) (hx : x < 18446744073709551616) (hy : y < 18446744073709551616) :
    RetC v w (.returned (.complex .f64 x y)) w := ⟨x, y, 0, rfl, by rw [h1, h2], hx, hy, rfl⟩
theorem closeR {v x n : Nat} {w : World} (h1 : cn .f64 x = v) (hx : x < 18446744073709551616) : RetR v w (.returned (.float .f64 x)) (w.drewN n) := ⟨x, n, rfl, h1, hx, rfl⟩
theorem closeR0 {v x : Nat} {w : World} (h1 : cn .f64 x = v) (hx : x < 18446744073709551616) : RetR v w (.returned (.float .f64 x)) w := ⟨x, 0, rfl, h1, hx, rfl⟩
theorem closeB {b c : Bool} {n : Nat} {w : World} (h : c = b) : RetB b w (.returned (.bool c)) (w.drewN n) := ⟨n, by rw [h], rfl⟩
theorem closeB0 {b c : Bool} {w : World} (h : c = b) : RetB b w (.returned (.bool c)) w := ⟨0, by rw [h], rfl⟩
theorem ret_float {k : FloatKind} {a b : Nat} (h : a = b) : Ending.returned (.float k a) = .returned (.float k b) := by rw [h]
theorem ret_int {k : IntKind} {a b : Int} (h : a = b) : Ending.returned (.int k a) = .returned (.int k b) := by rw [h]
theorem ret_bool {a b : Bool} (h : a = b) : Ending.returned (.bool a) = .returned (.bool b) := by rw [h]
theorem ret_complex {k : FloatKind} {a b c d : Nat} (h : a = c) (h' : b = d) : Ending.returned (.complex k a b) = .returned (.complex k c d) := by rw [h, h']
theorem same_close {k : FloatKind} {a b : Nat} {c : Bool} (h : c = true ↔ ((a : Int) = (b : Int) ∨ (isNaN k.format a = true ∧ isNaN k.format b = true))) {w : World} :
    Ending.returned (.bool c) = .returned (.bool (decide (cn k a = cn k b))) ∧ w = w := by
  have e : c = decide (cn k a = cn k b) := by
    rw [Bool.eq_iff_iff, h, decide_eq_true_eq, cn_eq_iff, Int.ofNat_inj]
  rw [e]; exact ⟨rfl, rfl⟩

theorem mAbs_c (x : Nat) (hx : x < 18446744073709551616) (w : World) :
    Calls Try.prog 48 #[.float .f64 x] w fun e w' => e = .returned (.float .f64 (rung double x)) ∧ w = w' := by
  go_enter Try.func48, Try.ntmps48
  go_wp2
  go_ret; exact ⟨ret_float (by simp), rfl⟩
theorem mCopysign_c (x y : Nat) (hx : x < 18446744073709551616) (hy : y < 18446744073709551616) (w : World) :
    Calls Try.prog 45 #[.float .f64 x, .float .f64 y] w fun e w' => e = .returned (.float .f64 (double.word (sgn double y) (rung double x))) ∧ w = w' := by
  have hr : rung double x < 9223372036854775808 := rung_lt64 x
  go_enter Try.func45, Try.ntmps45
  go_wp2
  all_goals (go_ret; exact ⟨rfl, rfl⟩)
theorem mIsInf_c (x : Nat) (hx : x < 18446744073709551616) (w : World) :
    Calls Try.prog 61 #[.float .f64 x, .int .i64 0] w fun e w' => e = .returned (.bool (isInf double x)) ∧ w = w' := by
  go_enter Try.func61, Try.ntmps61
  go_wp2_with (go_at_call 48; refine (mAbs_c _ (by assumption) _).mono ?_; rintro e w' ⟨rfl, rfl⟩)
  go_ret; exact ⟨ret_bool (flt_max x), rfl⟩
theorem mInf_c (w : World) :
    Calls Try.prog 43 #[.int .i64 1] w fun e w' => e = .returned (.float .f64 9218868437227405312) ∧ w = w' := by
  go_enter Try.func43, Try.ntmps43
  go_wp2
  go_ret; exact ⟨rfl, rfl⟩
theorem mInfNeg_c (w : World) :
    Calls Try.prog 43 #[.int .i64 (-1)] w fun e w' => e = .returned (.float .f64 18442240474082181120) ∧ w = w' := by
  go_enter Try.func43, Try.ntmps43
  go_wp2
  go_ret; exact ⟨rfl, rfl⟩
theorem mNaN_c (w : World) :
    Calls Try.prog 47 #[] w fun e w' => e = .returned (.float .f64 9221120237041090561) ∧ w = w' := by
  go_enter Try.func47, Try.ntmps47
  go_wp2
  go_ret; exact ⟨rfl, rfl⟩
theorem mSqrt_c (x : Nat) (w : World) :
    Calls Try.prog 68 #[.float .f64 x] w (RetR (fsqrt (cn .f64 x)) w) := by
  go_enter Try.func68, Try.ntmps68
  go_wp2_with fail
  refine upon_sqrt (x_sqrt _) ?_
  intro r n h
  go_wp2
  go_ret; exact closeR h.1 h.2
theorem sameReal_c (a b : Nat) (w : World) :
    Calls Try.prog 74 #[.float .f64 a, .float .f64 b] w fun e w' => e = .returned (.bool (decide (cn .f64 a = cn .f64 b))) ∧ w = w' := by
  go_enter Try.func74, Try.ntmps74
  go_wp2
  all_goals (go_ret; exact same_close (by simp_all))
theorem kSameReal_c (a b : Nat) (w : World) :
    Calls Try.prog 57 #[.float .f64 a, .float .f64 b] w fun e w' => e = .returned (.bool (decide (cn .f64 a = cn .f64 b))) ∧ w = w' := by
  go_enter Try.func57, Try.ntmps57
  go_wp2
  all_goals (go_ret; exact same_close (by simp_all))
theorem Sub_c (p q c d : Nat) (w : World) :
    Calls Try.prog 55 #[.complex .f64 p q, .complex .f64 c d] w (RetC (pSub (cn .f64 p, cn .f64 q) (cn .f64 c, cn .f64 d)) w) := by
  go_enter Try.func55, Try.ntmps55
  go_wp2_with fail
  refine upon_sub _ _ _ _ ?_
  intro r1 n1 h1
  go_wp2_with fail
  refine upon_sub _ _ _ _ ?_
  intro r2 n2 h2
  go_wp2
  go_ret; exact closeC h1.1 h2.1 h1.2 h2.2
theorem Same_c (a b c d : Nat) (w : World) :
    Calls Try.prog 58 #[.complex .f64 a b, .complex .f64 c d] w fun e w' => e = .returned (.bool (pSame (cn .f64 a, cn .f64 b) (cn .f64 c, cn .f64 d))) ∧ w = w' := by
  unfold pSame
  cases hd : decide (cn .f64 a = cn .f64 c)
  · go_enter Try.func58, Try.ntmps58
    go_wp2_with (go_at_call 74; refine (sameReal_c _ _ _).mono ?_; rintro e w' ⟨rfl, rfl⟩)
    go_ret; exact ⟨ret_bool (by rfl), rfl⟩
  · go_enter Try.func58, Try.ntmps58
    go_wp2_with (go_at_call 74; refine (sameReal_c _ _ _).mono ?_; rintro e w' ⟨rfl, rfl⟩)
    go_ret; exact ⟨ret_bool (by rfl), rfl⟩
end Go.Proofs.Ytmbjaadhkhhaeaa
namespace Go.Proofs.Ytmbjaadhkhhaeaa
open Go.RowKit Fl Ieee
set_option maxRecDepth 20000
attribute [local go_sem] x_f64frombits
attribute [local go_sem] x_f64bits
attribute [local go_sem] Fl.order_self Fl.order_self' Fl.order_eq Fl.order_ne Fl.order_lt Fl.order_gt Fl.fle_fold Fl.fge_fold Fl.u64_clear Fl.u64_sign Fl.u64_flip Fl.u64_or_sign Fl.u32_clear Fl.negFloat_flip
def RetNum (a b : Nat) (w : World) (e : Ending) (w' : World) : Prop :=
  ∃ n, e = .returned (.complex .f64 a b) ∧ w' = (w.alloc (.cells #[.int .u64 a, .int .u64 b] 29)).drewN n
theorem Number_c (a b : Nat) (w : World) :
    Calls Try.prog 15 #[.agg #[.int .u64 a, .int .u64 b]] w (RetNum a b w) := by
  go_enter Try.func15, Try.ntmps15
  go_wp2
  go_quiet (fail)
  go_wp2
  go_ret; exact ⟨_, rfl, rfl⟩
theorem feq_cn0 (r : Nat) : feq .f64 r 0 = feq .f64 (cn .f64 r) 0 := by
  have h1 := feq_cn .f64 r 0
  have h0 : cn .f64 0 = 0 := cn_of_not (isNaN_zero .f64)
  rw [h0] at h1; exact h1.symm
theorem isNaN_cn64 (x : Nat) : isNaN double (cn .f64 x) = isNaN double x := isNaN_cn .f64 x
theorem pZero_cn (a b : Nat) : pZero (cn .f64 a, cn .f64 b) = (feq .f64 a 0 && feq .f64 b 0) := by
  unfold pZero
  rw [← feq_cn0, ← feq_cn0]
theorem cn0 : cn .f64 0 = 0 := cn_of_not (isNaN_zero .f64)
theorem cn2 : cn .f64 4611686018427387904 = ftwo := by decide
theorem fle_cn0 (r : Nat) : fle .f64 0 (cn .f64 r) = fle .f64 0 r := by
  have h1 := fle_cn .f64 0 r
  rw [cn0] at h1; exact h1
theorem fin_of_sub {a r : Nat} (ha : a < 18446744073709551616) (h : IsOp .sub .f64 a a r) : feq .f64 r 0 = isFin double a := by
  rw [feq_cn0, h.1, fop_cn, sub_self_eq a ha]
theorem Finite_c (a b : Nat) (ha : a < 18446744073709551616) (hb : b < 18446744073709551616) (w : World) :
    Calls Try.prog 54 #[.complex .f64 a b] w (RetB (pFinite (cn .f64 a, cn .f64 b)) w) := by
  have e : pFinite (cn .f64 a, cn .f64 b) = (isFin double a && isFin double b) := by
    unfold pFinite
    have h1 := isFin_cn .f64 a
    have h2 := isFin_cn .f64 b
    exact congr (congrArg and h1) h2
  rw [e]; clear e
  cases hd : isFin double a
  · go_enter Try.func54, Try.ntmps54
    go_wp2_with fail
    refine upon_sub _ _ _ _ ?_
    intro r1 n1 h1
    have f1 : feq .f64 r1 0 = false := (fin_of_sub ha h1).trans hd
    go_wp2
    go_ret; exact closeB rfl
  · go_enter Try.func54, Try.ntmps54
    go_wp2_with fail
    refine upon_sub _ _ _ _ ?_
    intro r1 n1 h1
    have f1 : feq .f64 r1 0 = true := (fin_of_sub ha h1).trans hd
    go_wp2_with fail
    refine upon_sub _ _ _ _ ?_
    intro r2 n2 h2
    have f2 : feq .f64 r2 0 = isFin double b := fin_of_sub hb h2
    go_wp2
    go_ret; exact closeB rfl
end Go.Proofs.Ytmbjaadhkhhaeaa
namespace Go.Proofs.Ytmbjaadhkhhaeaa
open Go.RowKit Fl Ieee
set_option maxRecDepth 20000
attribute [local go_sem] x_f64frombits
attribute [local go_sem] x_f64bits
attribute [local go_sem] Fl.order_self Fl.order_self' Fl.order_eq Fl.order_ne Fl.order_lt Fl.order_gt Fl.fle_fold Fl.fge_fold Fl.u64_clear Fl.u64_sign Fl.u64_flip Fl.u64_or_sign Fl.u32_clear Fl.negFloat_flip
end Go.Proofs.Ytmbjaadhkhhaeaa
namespace Go.Proofs.Ytmbjaadhkhhaeaa
open Go.RowKit
theorem wf_nat_u64 {a : Int} (h : (Lit.int .u64 a).wf = true) : ∃ n : Nat, a = (n : Int) ∧ n < 18446744073709551616 := by
  have h1 : 0 ≤ a ∧ a ≤ 18446744073709551615 := by simpa [Lit.wf, IntKind.min, IntKind.max, IntKind.signed, IntKind.bits] using h
  exact ⟨a.toNat, by omega, by omega⟩
theorem wf_nat_u32 {a : Int} (h : (Lit.int .u32 a).wf = true) : ∃ n : Nat, a = (n : Int) ∧ n < 4294967296 := by
  have h1 : 0 ≤ a ∧ a ≤ 4294967295 := by simpa [Lit.wf, IntKind.min, IntKind.max, IntKind.signed, IntKind.bits] using h
  exact ⟨a.toNat, by omega, by omega⟩
theorem wf_int_i64 {a : Int} (h : (Lit.int .i64 a).wf = true) : -9223372036854775808 ≤ a ∧ a ≤ 9223372036854775807 := by
  simpa [Lit.wf, IntKind.min, IntKind.max, IntKind.signed, IntKind.bits] using h
theorem wf_nat_u8 {a : Int} (h : (Lit.int .u8 a).wf = true) : ∃ n : Nat, a = (n : Int) ∧ n < 256 := by
  have h1 : 0 ≤ a ∧ a ≤ 255 := by simpa [Lit.wf, IntKind.min, IntKind.max, IntKind.signed, IntKind.bits] using h
  exact ⟨a.toNat, by omega, by omega⟩
end Go.Proofs.Ytmbjaadhkhhaeaa
namespace Go.Proofs.Ytmbjaadhkhhaeaa
open Go.RowKit Fl Ieee
theorem quiet_add_left {P : Program} {f : FuncId} {args : Array Value} {w : World} {a n : Nat} {v : Value}
    (h : Calls P f args (w.drewN (a + n)) fun e w' => e = .returned v ∧ w.drewN (a + n) = w') :
    Calls P f args (w.drewN (a + n)) fun e w'' => e = .returned v ∧ ∃ m, w'' = w.drewN (a + m) :=
  h.mono fun _ _ ⟨he, hm⟩ => ⟨he, n, hm.symm⟩
theorem lt_of_some {α : Type} {l : List α} {k : Nat} {x : α} (h : l[k]? = some x) : k < l.length := by
  rcases Nat.lt_or_ge k l.length with h1 | h1
  · exact h1
  · rw [List.getElem?_eq_none h1] at h; cases h
theorem some_of_lt {α : Type} {l : List α} {k : Nat} (h : k < l.length) : ∃ x, l[k]? = some x := ⟨l[k], List.getElem?_eq_getElem h⟩
theorem block_of_add (a : Addr) (n : Nat) : (a.add n).block = a.block := by unfold Addr.add; split <;> rfl
theorem add_of_add (a : Addr) (i j : Nat) : (a.add i).add j = a.add (i + j) := by
  unfold Addr.add
  by_cases hi : i = 0 <;> by_cases hj : j = 0 <;> simp [hi, hj, Nat.add_assoc]
/-- The slice's cells are xs; it lies below block B. -/
def Reads (w : World) (B : Nat) (A : Option Addr) (xs : List Value) : Prop :=
  0 < xs.length → ∃ ad, A = some ad ∧ ad.block < B ∧ ∀ j u, xs[j]? = some u → w.cell? (ad.add j) = some u
section
variable {w w' : World} {B B' : Nat} {A : Option Addr} {xs : List Value}
theorem Reads.at_ {k : Nat} {u : Value} (h : Reads w B A xs) (hk : xs[k]? = some u) : ∃ ad, A = some ad ∧ ad.block < B ∧ w.cell? (ad.add k) = some u := by
  have hl : k < xs.length := by
    rcases Nat.lt_or_ge k xs.length with h1 | h1
    · exact h1
    · rw [List.getElem?_eq_none h1] at hk; cases hk
  obtain ⟨ad, e, hb, hc⟩ := h (by omega)
  exact ⟨ad, e, hb, hc k u hk⟩
theorem Reads.keep (h : Reads w B A xs) (hk : ∀ p : Addr, p.block < B → w'.cell? p = w.cell? p) : Reads w' B A xs := fun hn => by
  obtain ⟨ad, e, hb, hc⟩ := h hn
  exact ⟨ad, e, hb, fun j u hu => (hk _ (by rw [block_of_add]; exact hb)).trans (hc j u hu)⟩
theorem Reads.more (h : Reads w B A xs) (hB : B ≤ B') : Reads w B' A xs := fun hn => by
  obtain ⟨ad, e, hb, hc⟩ := h hn
  exact ⟨ad, e, by omega, hc⟩
theorem Reads.below (h : Reads w B A xs) (hb : Below B w w') : Reads w' B A xs := h.keep fun _ hp => hb.cell hp
theorem Reads.drewN (h : Reads w B A xs) (k : Nat) : Reads (w.drewN k) B A xs := h
theorem Reads.alloc (h : Reads w B A xs) (hB : B ≤ w.heap.size) (o : Obj) : Reads (w.alloc o) B A xs := h.keep fun p hp => World.cell?_alloc_lt w o p (by omega)
theorem Reads.of_own {base n c : Nat} {e : TypeId} (h : w.ownsRow base e 1 (.slice A n c) n xs) : Reads w w.heap.size A xs := by
  intro hn
  have hl := h.1
  obtain ⟨g, cap, hv, _, hlt⟩ := h.form (by omega)
  have hA : A = some ⟨g, 0, none⟩ := by injection hv
  subst hA
  exact ⟨_, rfl, hlt, h.cells (g := g) rfl⟩
theorem Reads.new (w : World) (t : TypeId) (xs : List Value) : Reads (w.alloc (.cells xs.toArray t)) (w.heap.size + 1) (some ⟨w.heap.size, 0, none⟩) xs := by
  intro _
  refine ⟨_, rfl, by simp, fun j u hu => ?_⟩
  have e : (Addr.add ⟨w.heap.size, 0, none⟩ j) = ⟨w.heap.size, j, none⟩ := by
    unfold Addr.add; split <;> simp_all
  rw [e, cell_of_row _ _ _ _ _ _ (heap_alloc_new w _)]
  simpa using hu
theorem Reads.newAt (w : World) (t : TypeId) (xs : List Value) {b : Nat} (hb : b = w.heap.size) : Reads (w.alloc (.cells xs.toArray t)) (w.heap.size + 1) (some ⟨b, 0, none⟩) xs := hb ▸ Reads.new w t xs
end
theorem below_drewN {B : Nat} {a w : World} (h : Below B a w) (n : Nat) : Below B a (w.drewN n) := ⟨h.os, h.tape, h.output, h.size, h.block⟩
theorem size_drewN (w : World) (n : Nat) : (w.drewN n).heap.size = w.heap.size := rfl
/-- A new block behind what has grown. -/
theorem _root_.Go.RowKit.Below.new {B : Nat} {a w : World} (h : Below B a w) (hB : B ≤ a.heap.size) (o : Obj) : Below B a (w.alloc o) := h.alloc (Nat.le_trans hB h.size) o
theorem own_drewN {w : World} {B e size n : Nat} {v : Value} {xs : List Value} (h : w.ownsRow B e size v n xs) (q : Nat) : (w.drewN q).ownsRow B e size v n xs := h
theorem cell_one_at (w : World) (x : Value) (t : TypeId) {b : Nat} (hb : b = w.heap.size) : ∀ j u, [x][j]? = some u → (w.alloc (.cells #[x] t)).cell? ((⟨b, 0, none⟩ : Addr).add j) = some u := hb ▸ cell_one_new w x t
/-- The values of a list of reals. -/
abbrev reals (l : List Nat) : List Value := l.map (Value.float .f64)
def words (l : List Nat) : Prop := ∀ x ∈ l, x < 18446744073709551616
open Go.ChangeShapes Go.WideShapes in
/-- What a row asks behind the call, where below the old heap nothing has turned. -/
theorem post_of_below {H : Type} {enc : TypeId × Value → H} {P : Program} {f : Func} {s : ChangeSpec} {apart fresh handsOn again : Bool} {W W' : World} {args : Array Value} {v : Value} {ds gs : List (DataW H)} {before pa pv : List MemPlace}
    (hW : DataW.Whole enc P f.params.toList s.vars apart W args.toList ds gs before)
    (hres : ∀ (b : Nat) (sp : Nat → Bool) (hd : Bool), DataW.TrodAll enc P W' b sp hd f.resultTypes.toList (v.resultList f.resultTypes.size) (s.fn H (ds ++ gs)).results [])
    (hargs : ∀ sp : Nat → Bool, (∀ p ∈ before, sp p.block = true) → DataW.TrodAll enc P W' 0 sp true f.params.toList args.toList (s.fn H (ds ++ gs)).args pa)
    (hvars : ∀ sp : Nat → Bool, (∀ p ∈ before, sp p.block = true) → DataW.TrodVars enc P W' sp s.vars (s.fn H (ds ++ gs)).vars pv)
    (hps : before = pa ++ pv) (hb : Below W.heap.size W W')
    (hok : ∀ (j : Nat) (t : TypeId) (r : Value), f.resultTypes[j]? = some t → (v.resultList f.resultTypes.size)[j]? = some r → Value.okWide P W' .any 0 t r) :
    s.post enc P f apart fresh handsOn again W args v W' := by
  have hlt := hW.lt
  have hold : ∀ p ∈ before, (fun b => decide (b < W.heap.size)) p.block = true := fun p hp => by simpa using hlt p hp
  refine ⟨ds, gs, before, [], pa, pv, hW, hres _ _ _, hargs _ hold, hvars _ hold, World.keptBut_mono (fun _ f => f.elim) (hb.frame fun _ => False), fun _ => ?_⟩
  obtain ⟨_, _, _, _, _, hz, hn⟩ := hW
  refine ⟨hok, _, _, ([] ++ pa) ++ pv, ⟨[] ++ pa, pv, trodAll_append (hargs _ fun _ _ => rfl) (hres _ _ _), hvars _ fun _ _ => rfl, rfl, ?_, ?_⟩, ?_⟩
  · intro b off hp
    have hm : MemPlace.cell b off ∈ before := by rw [hps]; simpa using hp
    have h1 := hb.frozen (p := ⟨b, off, none⟩) (hlt _ hm)
    exact h1.trans (hz b off hm)
  · intro ha
    have := hn ha
    rw [hps] at this
    simpa using this
  · intro p hp _
    rw [hps]
    simpa using hp
end Go.Proofs.Ytmbjaadhkhhaeaa
namespace Go.Proofs.Ytmbjaadhkhhaeaa
open Go.RowKit Fl Ieee
set_option maxRecDepth 20000
attribute [local go_sem] x_f64frombits
attribute [local go_sem] x_f64bits
attribute [local go_sem] Fl.order_self Fl.order_self' Fl.order_eq Fl.order_ne Fl.order_lt Fl.order_gt Fl.fle_fold Fl.fge_fold Fl.u64_clear Fl.u64_sign Fl.u64_flip Fl.u64_or_sign Fl.u32_clear Fl.negFloat_flip

theorem ret_ib {a c : Int} {b d : Bool} (h : a = c) (h' : b = d) : Ending.returned (.tuple #[.int .i64 a, .bool b]) = .returned (.tuple #[.int .i64 c, .bool d]) := by rw [h, h']
theorem ret_fb {a c : Nat} {b d : Bool} (h : a = c) (h' : b = d) : Ending.returned (.tuple #[.float .f64 a, .bool b]) = .returned (.tuple #[.float .f64 c, .bool d]) := by rw [h, h']
theorem u64_wrap (z : Int) : IntKind.u64.wrap z = z % 18446744073709551616 := by simp [IntKind.wrap, IntKind.bits, IntKind.signed]
theorem double_word {x : Nat} (hx : x < 18446744073709551616) : x = if sgn double x then 9223372036854775808 + rung double x else rung double x := by
  have h := word_split (f := double) hx
  have e : double.word (sgn double x) (rung double x) = if sgn double x then 9223372036854775808 + rung double x else rung double x := by
    unfold Format.word; rw [sw64]
  rw [← e]; exact h
theorem inf_double : double.infRung = 9218868437227405312 := by decide
/-- A real's kind. -/
def kind (x : Nat) : Nat :=
  if rung double x = 0 then 0 else if rung double x < 4503599627370496 then 1 else if rung double x < 9218868437227405312 then 2
  else if rung double x = 9218868437227405312 then 3 else 4
/-- A real's place. -/
def plc (x : Nat) : Int := if isNaN double x then 0 else key double x
def atOk (p : Int) : Bool := decide (-9218868437227405312 ≤ p) && decide (p ≤ 9218868437227405312)
def atV (p : Int) : Nat := if atOk p then (if p < 0 then 9223372036854775808 + (-p).toNat else p.toNat) else 0
/-- The real beside one. -/
def nx (x : Nat) (up : Bool) : Nat :=
  if isNaN double x then x
  else if up then (if key double x = 9218868437227405312 then x else atV (key double x + 1))
  else (if key double x = -9218868437227405312 then x else atV (key double x - 1))
theorem rung_mod (x : Nat) : rung double x = x % 9223372036854775808 := by unfold rung; rw [sw64]
theorem key_bounds {x : Nat} (hn : isNaN double x = false) : -9218868437227405312 ≤ key double x ∧ key double x ≤ 9218868437227405312 := by
  simp only [isNaN, decide_eq_false_iff_not, inf_double] at hn
  unfold key; split <;> omega
theorem atV_lt (p : Int) : atV p < 18446744073709551616 := by
  unfold atV atOk; split
  · rename_i h; simp at h; split <;> omega
  · decide
theorem nx_lt {x : Nat} (hx : x < 18446744073709551616) (up : Bool) : nx x up < 18446744073709551616 := by
  unfold nx; split
  · exact hx
  · split <;> split <;> first | exact hx | exact atV_lt _

end Go.Proofs.Ytmbjaadhkhhaeaa
namespace Go.Proofs.Ytmbjaadhkhhaeaa
open Go.RowKit Fl Ieee
set_option maxRecDepth 20000
end Go.Proofs.Ytmbjaadhkhhaeaa
namespace Go.Proofs.Ytmbjaadhkhhaeaa
open Go.RowKit Fl Ieee
set_option maxRecDepth 20000
/-- A sum and its error, up to NaN. -/
def twoSum (a b : Nat) : Nat × Nat :=
  let s := fadd a b
  let t := fsub s a
  let u := fsub s t
  let v := fsub a u
  let w := fsub b t
  (s, fadd v w)
def sumStep (st : Nat × List Nat) (x : Nat) : Nat × List Nat := ((twoSum st.1 x).1, st.2 ++ [(twoSum st.1 x).2])
def sumErr (l : List Nat) : Nat × List Nat := l.foldl sumStep (0, [])
theorem sumErr_take {l : List Nat} {k x : Nat} (h : l[k]? = some x) :
    sumErr ((l.take (k + 1)).map (cn .f64)) = sumStep (sumErr ((l.take k).map (cn .f64))) (cn .f64 x) := by
  have hk : k < l.length := by
    rcases Nat.lt_or_ge k l.length with h1 | h1
    · exact h1
    · rw [List.getElem?_eq_none h1] at h; cases h
  have e : l[k] = x := by rw [List.getElem?_eq_getElem hk] at h; exact Option.some.inj h
  rw [List.take_succ_eq_append_getElem hk, e, List.map_append]
  unfold sumErr
  rw [List.foldl_append]; rfl
/-- Two reals that are v up to NaN are handed back. -/
def RetRR (v : Nat × Nat) (w : World) (e : Ending) (w' : World) : Prop :=
  ∃ x y n, e = .returned (.tuple #[.float .f64 x, .float .f64 y]) ∧ (cn .f64 x, cn .f64 y) = v ∧ x < 18446744073709551616 ∧ y < 18446744073709551616 ∧ w' = w.drewN n
theorem closeRR {v : Nat × Nat} {x y n : Nat} {w : World} (h1 : cn .f64 x = v.1) (h2 : cn .f64 y = v.2) (hx : x < 18446744073709551616) (hy : y < 18446744073709551616) :
    RetRR v w (.returned (.tuple #[.float .f64 x, .float .f64 y])) (w.drewN n) := ⟨x, y, n, rfl, by rw [h1, h2], hx, hy, rfl⟩
end Go.Proofs.Ytmbjaadhkhhaeaa
namespace Go.Proofs.Ytmbjaadhkhhaeaa
open Go.RowKit Fl Ieee
set_option maxRecDepth 20000
attribute [local go_sem] Fl.order_self Fl.order_self' Fl.order_eq Fl.order_ne Fl.order_lt Fl.order_gt Fl.fle_fold Fl.fge_fold
end Go.Proofs.Ytmbjaadhkhhaeaa
namespace Go.Proofs.Ytmbjaadhkhhaeaa
open Go.RowKit Fl Ieee
set_option maxRecDepth 20000
attribute [local go_sem] Fl.order_self Fl.order_self' Fl.order_eq Fl.order_ne Fl.order_lt Fl.order_gt Fl.fle_fold Fl.fge_fold
/-- The first of the greatest of the first k numbers: where, and which. -/
def great (l : List Nat) : Nat → Int × Nat
  | 0 => (-1, 0)
  | k + 1 => match l[k]? with
    | some x => if !isNaN double x && (decide ((great l k).1 < 0) || flt .f64 (great l k).2 x) then ((k : Int), x) else great l k
    | none => great l k
theorem great_bounds (l : List Nat) (k : Nat) : -1 ≤ (great l k).1 ∧ (great l k).1 < (k : Int) ∧ (0 ≤ (great l k).1 → l[(great l k).1.toNat]? = some (great l k).2) ∧ ((great l k).1 < 0 → great l k = (-1, 0)) := by
  induction k with
  | zero => exact ⟨by simp [great], by simp [great], fun h => absurd h (by simp [great]), fun _ => rfl⟩
  | succ k ih =>
    unfold great
    split
    · rename_i x hx
      split
      · exact ⟨by show (-1 : Int) ≤ (k : Int); omega, by show (k : Int) < ((k + 1 : Nat) : Int); omega, fun _ => by simpa using hx, fun h => absurd h (by show ¬ ((k : Int) < 0); omega)⟩
      · exact ⟨ih.1, by omega, ih.2.2.1, ih.2.2.2⟩
    · exact ⟨ih.1, by omega, ih.2.2.1, ih.2.2.2⟩
theorem great_hit {l : List Nat} {k x : Nat} (h : l[k]? = some x) (hc : (!isNaN double x && (decide ((great l k).1 < 0) || flt .f64 (great l k).2 x)) = true) : great l (k + 1) = ((k : Int), x) := by
  rw [great]; simp only [h]; rw [if_pos hc]
theorem great_miss {l : List Nat} {k x : Nat} (h : l[k]? = some x) (hc : (!isNaN double x && (decide ((great l k).1 < 0) || flt .f64 (great l k).2 x)) = false) : great l (k + 1) = great l k := by
  rw [great]; simp only [h]; rw [if_neg (by rw [hc]; simp)]
end Go.Proofs.Ytmbjaadhkhhaeaa
namespace Go.Proofs.Ytmbjaadhkhhaeaa
open Go.RowKit Fl Ieee
set_option maxRecDepth 20000
attribute [local go_sem] x_f64frombits
attribute [local go_sem] x_f64bits
attribute [local go_sem] Fl.order_self Fl.order_self' Fl.order_eq Fl.order_ne Fl.order_lt Fl.order_gt Fl.fle_fold Fl.fge_fold Fl.negFloat_flip
theorem grown_trans {a b c : World} (h : Grown a b) (k : Grown b c) : Grown a c :=
  ⟨World.keptBut_trans h.1 k.1, fun x => (k.2.1 x).trans (h.2.1 x), Nat.le_trans h.2.2 k.2.2⟩
theorem SameNumber_c (a b c d : Nat) (w : World) :
    Calls Try.prog 20 #[.complex .f64 a b, .complex .f64 c d] w fun e w' => e = .returned (.bool (pSame (cn .f64 a, cn .f64 b) (cn .f64 c, cn .f64 d))) ∧ w = w' := by
  unfold pSame
  cases hd : decide (cn .f64 a = cn .f64 c)
  · go_enter Try.func20, Try.ntmps20
    go_wp2_with (go_at_call 57; refine (kSameReal_c _ _ _).mono ?_; rintro e w' ⟨rfl, rfl⟩)
    go_ret; exact ⟨ret_bool (by rfl), rfl⟩
  · go_enter Try.func20, Try.ntmps20
    go_wp2_with (go_at_call 57; refine (kSameReal_c _ _ _).mono ?_; rintro e w' ⟨rfl, rfl⟩)
    go_ret; exact ⟨ret_bool (by rfl), rfl⟩
theorem SameNumber_t {a b c d : Nat} {v : C} (h : Hid ((cn .f64 a, cn .f64 b) = v)) (h' : Hid ((cn .f64 c, cn .f64 d) = v)) (w : World) :
    Calls Try.prog 20 #[.complex .f64 a b, .complex .f64 c d] w fun e w' => e = .returned (.bool true) ∧ w = w' := by
  have := SameNumber_c a b c d w
  rw [h.out, h'.out] at this
  have e : pSame v v = true := by simp [pSame]
  rw [e] at this; exact this
end Go.Proofs.Ytmbjaadhkhhaeaa
namespace Go.Proofs.Ytmbjaadhkhhaeaa
open Go.RowKit Fl Ieee
set_option maxRecDepth 20000
attribute [local go_sem] Fl.order_self Fl.order_self' Fl.order_eq Fl.order_ne Fl.order_lt Fl.order_gt Fl.fle_fold Fl.fge_fold Fl.negFloat_flip x_f64frombits
/-- A real and an error are handed back. -/
def RetRE (v : Nat) (er : Int) (w : World) (e : Ending) (w' : World) : Prop :=
  ∃ x n, e = .returned (.tuple #[.float .f64 x, .int .i64 er]) ∧ cn .f64 x = v ∧ x < 18446744073709551616 ∧ w' = w.drewN n
theorem closeRE {v x n : Nat} {er : Int} {w : World} (h1 : cn .f64 x = v) (hx : x < 18446744073709551616) : RetRE v er w (.returned (.tuple #[.float .f64 x, .int .i64 er])) (w.drewN n) := ⟨x, n, rfl, h1, hx, rfl⟩
theorem closeRE0 {v x : Nat} {er : Int} {w : World} (h1 : cn .f64 x = v) (hx : x < 18446744073709551616) : RetRE v er w (.returned (.tuple #[.float .f64 x, .int .i64 er])) w := ⟨x, 0, rfl, h1, hx, rfl⟩
/-- The three halvings. -/
def tT (t : Nat) : Nat → Nat
  | 0 => t
  | k + 1 => fdiv (tT t k) (fadd fone (fsqrt (fadd fone (fmul (tT t k) (tT t k)))))
/-- 13, 11, .. 1, -1. -/
def dT (k : Nat) : Nat := [4623507967449235456, 4622382067542392832, 4621256167635550208, 4619567317775286272, 4617315517961601024, 4613937818241073152, 4607182418800017408, 13830554455654793216].getD k 0
/-- The sum of the arc's row. -/
def sT (u : Nat) : Nat → Nat
  | 0 => 4589468260265693457
  | k + 1 => fsub (fdiv fone (dT k)) (fmul u (sT u k))
theorem dT_sub : ∀ k, k < 7 → fop .sub .f64 (dT k) 4611686018427387904 = dT (k + 1) := by decide +kernel
theorem dT_pos : ∀ k, k < 7 → flt .f64 0 (dT k) = true := by decide +kernel
theorem dT_end : flt .f64 0 (dT 7) = false := by decide +kernel
theorem dT_good : ∀ k, k < 8 → isNaN double (dT k) = false ∧ dT k < 18446744073709551616 := by decide +kernel
theorem dT_int : ∀ k : Nat, k < 7 → floatOfInt .f64 (13 - 2 * (k : Int)) = dT k := by decide +kernel
theorem cn_dT {k : Nat} (h : k < 8) : cn .f64 (dT k) = dT k := cn_of_not (k := .f64) (dT_good k h).1
/-- Out of the quotient of the sizes. -/
def arc (t : Nat) : Nat := fmul (fmul (fmul 4620693217682128896 (tT t 3)) (sT (fmul (tT t 3) (tT t 3)) 7)) 4615783660508851396
def turn1 (c : Bool) (v : Nat) : Nat := if c then fsub 4618441417868443648 v else v
def turn2 (c : Bool) (v : Nat) : Nat := if c then fsub 4622945017495814144 v else v
def turn3 (c : Bool) (v : Nat) : Nat := if c then fsub 0 v else v
/-- The angle of a number that is finite and not 0: p, q its parts' bits. -/
def angle (p q : Nat) : Nat :=
  let a := rung double p
  let b := rung double q
  turn3 (flt .f64 q 0) (turn2 (flt .f64 p 0) (turn1 (flt .f64 a b) (arc (if flt .f64 b a then fdiv b a else fdiv a b))))
theorem eq_of_cn {x c : Nat} (h : cn .f64 x = c) (hn : isNaN double c = false) : x = c := by
  have h1 : isNaN double x = false := by rw [← h] at hn; exact (isNaN_cn64 x).symm.trans hn
  rw [cn_of_not (k := .f64) h1] at h; exact h
theorem cnK1 : cn .f64 4607182418800017408 = fone := by decide
theorem cnK8 : cn .f64 4620693217682128896 = 4620693217682128896 := by decide
theorem cnKc : cn .f64 4615783660508851396 = 4615783660508851396 := by decide
theorem cnK6 : cn .f64 4618441417868443648 = 4618441417868443648 := by decide
theorem cnK12 : cn .f64 4622945017495814144 = 4622945017495814144 := by decide
theorem cnK2 : cn .f64 4611686018427387904 = 4611686018427387904 := by decide
theorem cnS0 : cn .f64 4589468260265693457 = 4589468260265693457 := by decide
/-- How far the row has come, by the float that counts. -/
def dN : Value → Nat
  | .float _ b => [4623507967449235456, 4622382067542392832, 4621256167635550208, 4619567317775286272, 4617315517961601024, 4613937818241073152, 4607182418800017408].idxOf b
  | _ => 0
theorem int_eq {k : IntKind} {a b : Int} (h : a = b) : Value.int k a = Value.int k b := by rw [h]
theorem dN_less : ∀ j, j < 7 → 8 - dN (.float .f64 (dT (j + 1))) < 8 - dN (.float .f64 (dT j)) := by decide +kernel
end Go.Proofs.Ytmbjaadhkhhaeaa
namespace Go.Proofs.Ytmbjaadhkhhaeaa
open Go.RowKit Fl Ieee
set_option maxRecDepth 20000
attribute [local go_sem] Fl.order_self Fl.order_self' Fl.order_eq Fl.order_ne Fl.order_lt Fl.order_gt Fl.fle_fold Fl.fge_fold Fl.negFloat_flip x_f64frombits
theorem feq_of {x c : Nat} (h : cn .f64 x = c) (hn : isNaN double c = false) : feq .f64 x c = true := by
  have h1 := eq_of_cn h hn
  subst h1
  have h2 : isNaN FloatKind.f64.format x = false := hn
  rw [feq_self, h2]; rfl
end Go.Proofs.Ytmbjaadhkhhaeaa
