/- Layer 11: what is none; closed data of RefineNames. -/
import Derived.Test.YtandllekeimpgaaRf9
import Derived.Test.YtandllekeimpgaaRf5
import Derived.Deep.DeepCutAuto
namespace Go.Proofs.Ytandllekeimpgaa
open Go.RowKit Fl Ieee
set_option maxRecDepth 20000
attribute [local go_sem] run_store_float run_store_complex Fl.order_self Fl.order_self' Fl.order_eq Fl.order_ne Fl.order_lt Fl.order_gt
theorem Once_no (r c : Int) (s v : Value) (Ax Ab : Option Addr) (nx cx nb cb : Nat) (w : World) (h : NoneV w v) :
    Calls Try.prog 27 #[mval r c s, v, .slice Ax nx cx, .slice Ab nb cb] w fun e w' => e = .returned (.tuple #[.slice none 0 0, .int .i64 1]) ∧ Below w.heap.size w w' := by
  obtain ⟨W0, hW0⟩ : ∃ W0, W0 = w.alloc (.cells #[.int .i64 r, .int .i64 c, s] 28) := ⟨_, rfl⟩
  have hrow : W0.heap[w.heap.size]? = some (.cells #[.int .i64 r, .int .i64 c, s] 28) := by rw [hW0]; exact heap_alloc_new _ _
  have hb0 : Below w.heap.size w W0 := by rw [hW0]; exact below_new _ _
  have HB0 := Lib.hid hb0
  have HW := Lib.hid hW0
  have HFi := Lib.hid (fits_no r c s v W0 (h.below hb0))
  obtain ⟨c0, c1, c2, -⟩ := box3 hrow
  clear hW0 hb0 h hrow
  go_enter Try.func27, Try.ntmps27
  go_upto_region 1 with fail
  rw [← HW.out]
  clear HW
  go_wp2_with fail
  refine (HFi.out).mono ?_
  rintro e1 W1 ⟨rfl, hb1⟩
  have HB1 := Lib.hid (HB0.out.trans (hb1.mono HB0.out.size))
  clear hb1 c0 c1 c2
  go_wp2
  go_ret2
  exact ⟨rfl, HB1.out⟩
theorem Until_no (r c : Int) (s v : Value) (Ax Ab : Option Addr) (nx cx nb cb : Nat) (most : Int) (w : World) (h : NoneV w v) :
    Calls Try.prog 24 #[mval r c s, v, .slice Ax nx cx, .slice Ab nb cb, .int .i64 most] w fun e w' => e = .returned (.tuple #[.slice none 0 0, .int .i64 0, .int .i64 1]) ∧ Below w.heap.size w w' := by
  obtain ⟨W0, hW0⟩ : ∃ W0, W0 = w.alloc (.cells #[.int .i64 r, .int .i64 c, s] 28) := ⟨_, rfl⟩
  have hrow : W0.heap[w.heap.size]? = some (.cells #[.int .i64 r, .int .i64 c, s] 28) := by rw [hW0]; exact heap_alloc_new _ _
  have hb0 : Below w.heap.size w W0 := by rw [hW0]; exact below_new _ _
  have HB0 := Lib.hid hb0
  have HW := Lib.hid hW0
  have HFi := Lib.hid (fits_no r c s v W0 (h.below hb0))
  obtain ⟨c0, c1, c2, -⟩ := box3 hrow
  clear hW0 hb0 h hrow
  go_enter Try.func24, Try.ntmps24
  go_upto_region 1 with fail
  rw [← HW.out]
  clear HW
  go_wp2_with fail
  refine (HFi.out).mono ?_
  rintro e1 W1 ⟨rfl, hb1⟩
  have HB1 := Lib.hid (HB0.out.trans (hb1.mono HB0.out.size))
  clear hb1 c0 c1 c2
  go_wp2
  go_ret3
  exact ⟨rfl, HB1.out⟩
def n2 : List C := [(4611686018427387904, 0)]
def n9 : List C := [(4621256167635550208, 0)]
def n3 : List C := [(4613937818241073152, 0)]
def n22 : List C := [(4611686018427387904, 0), (4611686018427387904, 0)]
def nI : List C := [(0, 9218868437227405312)]
def n308 : List C := [(9214871658872686752, 0)]
def n0 : List C := [(0, 0)]
theorem th_f : ofF 1 1 th = (0, 0) := by decide +kernel
theorem th_fin : finTo (ofS 1 th).E 1 := elRun_fin (matE_fin (l := th) (n := 1) rfl (by decide +kernel)) 1 (Nat.le_refl _)
theorem th_perm : Perm 1 (ofS 1 th).o := run_perm (S := S0 th 1) ⟨fun _ hi => hi, fun _ _ _ _ h => h⟩ 1 (Nat.le_refl _)
theorem nm_once : onceE 1 (ofS 1 th) 1 1 th n2 n9 = 0 ∧ onceR 1 (ofS 1 th) 1 1 th n2 n9 = n3 := by decide +kernel
theorem nm_u5 : untilE 1 1 1 th n2 n9 5 = 0 ∧ (untilR 1 (ofS 1 th) 1 1 th n2 n9 5).1 = n3 ∧ (untilR 1 (ofS 1 th) 1 1 th n2 n9 5).2 = 1 := by decide +kernel
theorem nm_u0 : untilE 1 1 1 th n2 n9 0 = 0 ∧ (untilR 1 (ofS 1 th) 1 1 th n2 n9 0).1 = n2 ∧ (untilR 1 (ofS 1 th) 1 1 th n2 n9 0).2 = 0 := by decide +kernel
theorem nm_u65 : untilE 1 1 1 th n2 n9 65 = 2 ∧ (untilR 1 (ofS 1 th) 1 1 th n2 n9 65).1 = [] ∧ (untilR 1 (ofS 1 th) 1 1 th n2 n9 65).2 = 0 := by decide +kernel
theorem nm_u1 : untilE 1 1 1 th n2 n9 (-1) = 2 ∧ (untilR 1 (ofS 1 th) 1 1 th n2 n9 (-1)).1 = [] ∧ (untilR 1 (ofS 1 th) 1 1 th n2 n9 (-1)).2 = 0 := by decide +kernel
theorem nm_4 : leftE 1 1 th n22 n9 = 4 ∧ leftR 1 1 th n22 n9 = [] := by decide +kernel
theorem nm_5 : leftE 1 1 th n2 nI = 5 ∧ leftR 1 1 th n2 nI = [] := by decide +kernel
theorem nm_6 : leftE 1 1 n308 n308 n0 = 6 ∧ leftR 1 1 n308 n308 n0 = [] := by decide +kernel
theorem reads11 (W : World) (l : List C) (o : Obj) (ho : o = .cells (nums l).toArray 45) (q : Nat) (hq : q = W.heap.size) : Reads (W.alloc o) (W.alloc o).heap.size (some ⟨q, 0, none⟩) (nums l) := by
  subst ho hq
  exact (Reads.new W 45 (nums l)).more (by simp)
/-- What is kept on the way. -/
structure Nq (w V : World) (B b q p : Nat) : Prop where
  bel : Below w.heap.size w V
  h9 : Has9 V B b 1 (ofS 1 th)
  r2 : Reads V V.heap.size (some ⟨q, 0, none⟩) (nums n2)
  r9 : Reads V V.heap.size (some ⟨p, 0, none⟩) (nums n9)
theorem Nq.below {w V V' : World} {B b q p : Nat} (h : Nq w V B b q p) (hb : Below V.heap.size V V') : Nq w V' B b q p :=
  ⟨h.bel.trans (hb.mono h.bel.size), h.h9.below hb, (h.r2.below hb).more hb.size, (h.r9.below hb).more hb.size⟩
theorem left_at {V : World} {r c : Int} {A Ax Ab : Option Addr} {m x b : List C} {km kx kb cap cx cb : Nat} {l : List C} {er : Int} (hm : m.length = km) (hx : x.length = kx) (hb : b.length = kb) (h1 : km ≤ cap) (h2 : kx ≤ cx) (h3 : kb ≤ cb) (lm : ltCs m) (lx : ltCs x) (lb : ltCs b)
    (rm : Reads V V.heap.size A (nums m)) (rx : Reads V V.heap.size Ax (nums x)) (rb : Reads V V.heap.size Ab (nums b)) (he : leftE r c m x b = er ∧ leftR r c m x b = l) :
    Calls Try.prog 12 #[mval r c (.slice A km cap), .slice Ax kx cx, .slice Ab kb cb] V (RetLf l er V) := by
  subst hm hx hb
  rw [← he.1, ← he.2]
  exact Left_c r c A Ax Ab m x b cap cx cb V h1 h2 h3 lm lx lb rm rx rb
theorem n22_lt : ltCs n22 := by
  intro z hz
  simp [n22] at hz
  subst hz
  exact ⟨by decide, by decide⟩
theorem nI_lt : ltCs nI := one_lt _ _ (by decide) (by decide)
theorem n308_lt : ltCs n308 := one_lt _ _ (by decide) (by decide)
theorem n0_lt : ltCs n0 := one_lt _ _ (by decide) (by decide)
theorem n2_lt : ltCs n2 := one_lt _ _ (by decide) (by decide)
theorem n9_lt : ltCs n9 := one_lt _ _ (by decide) (by decide)
theorem th_lt : ltCs th := one_lt _ _ (by decide) (by decide)
theorem Nq.once {w V : World} {B b q p : Nat} (h : Nq w V B b q p) {A : Option Addr} {cap : Nat} (hcap : 1 ≤ cap) (hr : Reads V V.heap.size A (nums th)) :
    Calls Try.prog 27 #[mval 1 1 (.slice A 1 cap), .pointer (some ⟨b, 0, none⟩), .slice (some ⟨q, 0, none⟩) 1 1, .slice (some ⟨p, 0, none⟩) 1 1] V (RetLf n3 0 V) := by
  have h1 := Once_c 1 1 A (some ⟨q, 0, none⟩) (some ⟨p, 0, none⟩) th n2 n9 cap 1 1 V h.h9 th_fin th_perm (by decide) hcap (Nat.le_refl _) (Nat.le_refl _) th_lt n2_lt n9_lt hr h.r2 h.r9
  rw [nm_once.1, nm_once.2] at h1
  exact h1
theorem Nq.until {w V : World} {B b q p : Nat} (h : Nq w V B b q p) {A : Option Addr} {cap : Nat} (hcap : 1 ≤ cap) (hr : Reads V V.heap.size A (nums th)) (most : Int) {l : List C} {k : Nat} {er : Int}
    (hu : untilE 1 1 1 th n2 n9 most = er ∧ (untilR 1 (ofS 1 th) 1 1 th n2 n9 most).1 = l ∧ (untilR 1 (ofS 1 th) 1 1 th n2 n9 most).2 = k) :
    Calls Try.prog 24 #[mval 1 1 (.slice A 1 cap), .pointer (some ⟨b, 0, none⟩), .slice (some ⟨q, 0, none⟩) 1 1, .slice (some ⟨p, 0, none⟩) 1 1, .int .i64 most] V (RetUn l k er V) := by
  have h1 := Until_c 1 1 A (some ⟨q, 0, none⟩) (some ⟨p, 0, none⟩) th n2 n9 cap 1 1 most V h.h9 th_fin th_perm (by decide) hcap (Nat.le_refl _) (Nat.le_refl _) (fun e => by cases e) th_lt n2_lt n9_lt hr h.r2 h.r9
  rw [hu.1, hu.2.1, hu.2.2] at h1
  exact h1
end Go.Proofs.Ytandllekeimpgaa
