/- InversePermutes' walk. -/
import Derived.Test.YtajdfbjjgjpicaaExt
import Derived.Test.YtajdfbjjgjpicaaReg
import Derived.Test.YtajdfbjjgjpicaaPmQ
import Derived.Test.YtajdfbjjgjpicaaArg
import Derived.Deep.CutBlock
import Derived.StillTailTactics
import Derived.Deep.DeepCutAuto
namespace Go.Proofs.Ytajdfbjjgjpicaa
open Go.RowKit Fl Ieee
set_option maxRecDepth 20000
attribute [local go_sem] run_store_float run_store_complex Fl.order_self Fl.order_self' Fl.order_eq Fl.order_ne Fl.negFloat_flip
/-- What is kept while the world grows: rows, lists that read. -/
structure Kp (w W : World) (rows : List (Nat × Obj)) (rds : List (Option Addr × List C)) : Prop where
  bel : Below w.heap.size w W
  row : ∀ p ∈ rows, W.heap[p.1]? = some p.2
  rd : ∀ p ∈ rds, Reads W W.heap.size p.1 (nums p.2)
namespace Kp
variable {w W V : World} {rows : List (Nat × Obj)} {rds : List (Option Addr × List C)}
theorem below (h : Kp w W rows rds) (hb : Below W.heap.size W V) : Kp w V rows rds :=
  ⟨h.bel.trans (hb.mono h.bel.size), fun p hp => row_keep hb (h.row p hp), fun p hp => ((h.rd p hp).below hb).more hb.size⟩
theorem add (h : Kp w W rows rds) {b : Nat} {o : Obj} (hr : W.heap[b]? = some o) : Kp w W ((b, o) :: rows) rds :=
  ⟨h.bel, fun p hp => by
    rcases List.mem_cons.1 hp with rfl | h1
    · exact hr
    · exact h.row p h1, h.rd⟩
theorem addR (h : Kp w W rows rds) {A : Option Addr} {l : List C} (hr : Reads W W.heap.size A (nums l)) : Kp w W rows ((A, l) :: rds) :=
  ⟨h.bel, h.row, fun p hp => by
    rcases List.mem_cons.1 hp with rfl | h1
    · exact hr
    · exact h.rd p h1⟩
theorem new (h : Kp w W rows rds) (o : Obj) : Kp w (W.alloc o) ((W.heap.size, o) :: rows) rds := (h.below (below_new W o)).add (heap_alloc_new W o)
theorem new2 (h : Kp w W rows rds) (o o' : Obj) : Kp w ((W.alloc o).alloc o') ((W.heap.size + 1, o') :: (W.heap.size, o) :: rows) rds :=
  ((h.new o).below (below_new _ o')).add (row_new2 W o o')
end Kp
def unitW (k : Int) : C := if k = 0 then (fone, 0) else if k = 1 then (0, fone) else if k = 2 then (13830554455654793216, 0) else (0, 13830554455654793216)
theorem unit12_c (k : Int) (w : World) :
    Calls Try.prog 24 #[.int .i64 k] w fun e w' => e = .returned (.complex .f64 (unitW (k % 4)).1 (unitW (k % 4)).2) ∧ Below w.heap.size w w' := by
  have hP := Lib.hid (fun W => Pick_c k 4 (by omega) (by omega) W)
  obtain ⟨r, hr⟩ : ∃ r, r = k % 4 := ⟨_, rfl⟩
  have h0 : 0 ≤ r := by omega
  have h1 : r < 4 := by omega
  rw [← hr] at hP ⊢
  clear hr
  have hc : r = 0 ∨ r = 1 ∨ r = 2 ∨ r = 3 := by omega
  go_enter Try.func24, Try.ntmps24
  rcases hc with rfl | rfl | rfl | rfl <;> (
    go_wp2_with (go_at_call 23; refine (hP.out _).mono ?_; rintro e w' ⟨rfl, rfl⟩)
    go_ret
    exact ⟨rfl, below_new _ _⟩)
theorem ex_flip {x : Nat} {a : Int} (h : Ex x a 1074) : Ex (flip double x) (-a) 1074 := by
  have h1 := h.neg
  unfold fneg at h1
  rwa [if_neg (by rw [h.nan]; exact Bool.false_ne_true)] at h1
theorem cx_equal {x y : C} {a b : Int} (h : Cx x a b) (h' : Cx y a b) : pEqual (cnC x) (cnC y) = true := by
  rw [fin_cn (cx_fin h), fin_cn (cx_fin h')]
  unfold pEqual
  rw [h.1.feq h'.1, h.2.feq h'.2]; rfl
theorem pm_inv {n M : Nat} {t : Nat → Nat} {u v : Nat → Int} {L : List C} (h : PmL n t u v L) (hM : M = n * n) (B : Option Addr) (c : Nat) (V : World) (hc : M ≤ c) (hr : Reads V V.heap.size B (nums L)) :
    Calls Try.prog 18 #[mval n n (.slice B M c)] V fun e w' => ∃ A c, e = .returned (.tuple #[mval n n (.slice A M c), .agg #[.int .i64 0, .int .i64 0]]) ∧ Lies w' A (entries n (invE n (ofS n L)) M) c ∧ Below V.heap.size V w' := by
  have hl : L.length = M := h.len.trans hM.symm
  have h1 := Inv_c n n B L c V (by rw [hl]; exact hc) hr h.lt
  rw [hl] at h1
  refine h1.mono fun e w' h2 => ?_
  obtain ⟨A, c2, rfl, h3, h4, h5⟩ := h2.ok (by rw [h.ofI_ok']) hM
  refine ⟨A, c2, rfl, ⟨h3, fun e => ?_, by simpa [entries] using h4, ?_⟩, h5⟩
  · subst e
    have hn := h.n0
    have : 0 < (nums (entries n (invE n (ofS n L)) M)).length := by
      simp [nums, entries, hM]; exact Nat.mul_pos hn hn
    obtain ⟨a, e, -⟩ := h3 this
    cases e
  · rw [hM]; exact inv_lt h.P.n64 h.len h.lt (by rw [h.ofF_ok])
theorem pm_car {n M : Nat} {t : Nat → Nat} {u v : Nat → Int} {L : List C} (h : PmL n t u v L) (hM : M = n * n) (B : Option Addr) (c : Nat) (V : World) (hc : M ≤ c) (hr : Reads V V.heap.size B (nums L)) :
    Calls Try.prog 20 #[mval n n (.slice B M c)] V fun e w' => e = .returned (.tuple #[.float .f64 fone, .agg #[.int .i64 0, .int .i64 0]]) ∧ Below V.heap.size V w' := by
  have hl : L.length = M := h.len.trans hM.symm
  have h1 := Car_c n n B L c V (by rw [hl]; exact hc) hr h.lt
  rw [hl, h.car.1, h.car.2] at h1
  exact h1
theorem pm_off {n M : Nat} {t : Nat → Nat} {u v : Nat → Int} {L : List C} (h : PmL n t u v L) (hM : M = n * n) (B A : Option Addr) (c c' : Nat) (V : World) (hX : Lies V B L c) (hY : Lies V A (entries n (invE n (ofS n L)) M) c') :
    Calls Try.prog 12 #[mval n n (.slice B M c), mval n n (.slice A M c')] V (RetFE 0 0 V) := by
  have hl : L.length = M := h.len.trans hM.symm
  have hl2 : (entries n (invE n (ofS n L)) M).length = M := by simp [entries]
  have h1 := Off_c n n n n B A L _ c c' V hX hY
  have h64 := h.P.n64
  have ho : okOff n n n n M M = true := by
    have : okM (n : Int) (n : Int) M = true := by unfold okM; rw [hM]; simp; omega
    unfold okOff; rw [this]; simp
  have e0 : offN L (entries n (invE n (ofS n L)) M) n = 0 := by rw [hM]; exact h.off h.entries_cn
  rw [hl, hl2] at h1
  unfold offV offE at h1
  rw [hl, hl2, ho] at h1
  have h1' : Calls Try.prog 12 #[mval n n (.slice B M c), mval n n (.slice A M c')] V (RetFE (offN L (entries n (invE n (ofS n L)) M) (n : Int).toNat) 0 V) := h1
  rw [Int.toNat_natCast, e0] at h1'
  exact h1'
def unR (r : Int) : Int := if r = 0 then 1 else if r = 1 then 0 else if r = 2 then -1 else 0
def unI (r : Int) : Int := if r = 0 then 0 else if r = 1 then 1 else if r = 2 then 0 else -1
theorem unitW_cx (r : Int) : Cx (unitW r) (unR r) (unI r) ∧ Unit4 (unR r) (unI r) ∧ ltC (unitW r) := by
  have z : Ex 0 0 1074 := ex_zero (by decide) (by decide)
  have o : Ex fone 1 1074 := ex_one
  unfold unitW unR unI
  split
  · exact ⟨⟨o, z⟩, .inl ⟨rfl, rfl⟩, ⟨by decide, by decide⟩⟩
  · split
    · exact ⟨⟨z, o⟩, .inr (.inr (.inl ⟨rfl, rfl⟩)), ⟨by decide, by decide⟩⟩
    · split
      · exact ⟨⟨ex_minus, z⟩, .inr (.inl ⟨rfl, rfl⟩), ⟨by decide, by decide⟩⟩
      · exact ⟨⟨z, ex_minus⟩, .inr (.inr (.inr ⟨rfl, rfl⟩)), ⟨by decide, by decide⟩⟩
theorem mk_rowI (W : World) (n : Nat) : rowGe (W.alloc (.cells (madeCells #[.int .i64 0] n) 3)) W.heap.size 3 n (fun _ => .int .i64 0) := by
  obtain ⟨c, h1, h2, h3⟩ := World.rowIs_made W (.int .i64 0) n 3
  exact ⟨c, h1, by omega, h3⟩
/-- A permutation, as it lies. -/
structure PmT (n : Nat) (t : Nat → Nat) (W : World) (p : Nat) : Prop where
  lt : ∀ i, i < n → t i < n
  inj : ∀ i j, i < n → j < n → t i = t j → i = j
  onto : ∀ j, j < n → ∃ i, i < n ∧ t i = j
  row : rowGe W p 3 n (fun a => .int .i64 (t a : Nat))
theorem hTw_drewN {n : Nat} {t : Nat → Nat} {W : World} {p : Nat} (h : PmT n t W p) (d : Nat) : PmT n t (W.drewN d) p := ⟨h.lt, h.inj, h.onto, h.row⟩
theorem pmT_drew {n : Nat} {t : Nat → Nat} {W : World} {p : Nat} (h : PmT n t W p) : PmT n t W.drew p := ⟨h.lt, h.inj, h.onto, h.row⟩
theorem PmT.swap {n : Nat} {t : Nat → Nat} {W : World} {p a b : Nat} (h : PmT n t W p) (ha : a < n) (hb : b < n) :
    PmT n (fun i => t (xch a b i)) ((W.setCell ⟨p, a, none⟩ (.int .i64 (t b : Nat))).setCell ⟨p, b, none⟩ (.int .i64 (t a : Nat))) p where
  lt i hi := h.lt _ (xch_lt ha hb hi)
  inj i j hi hj e := xch_inj (h.inj _ _ (xch_lt ha hb hi) (xch_lt ha hb hj) e)
  onto j hj := by
    obtain ⟨i, hi, e⟩ := h.onto j hj
    exact ⟨xch a b i, xch_lt ha hb hi, by show t (xch a b (xch a b i)) = j; rw [xch_xch]; exact e⟩
  row := ((h.row.set a _).set b _).congr fun i hi => by
    unfold xch
    by_cases e1 : i = b
    · subst e1
      rw [if_pos rfl]
      by_cases e2 : i = a
      · subst e2; rw [if_pos rfl]
      · rw [if_neg e2, if_pos rfl]
    · rw [if_neg e1]
      by_cases e2 : i = a
      · subst e2; rw [if_pos rfl, if_pos rfl]
      · rw [if_neg e2, if_neg e2, if_neg e1]
/-- The matrix that is being filled: i rows are written; its conjugated transpose. -/
def pmZ (N : Nat) (t : Nat → Nat) (un : Nat → C) (i q : Nat) : C := if q / N < i ∧ t (q / N) = q % N then un (q / N) else (0, 0)
def pmY (N : Nat) (t : Nat → Nat) (un : Nat → C) (i q : Nat) : C := if q % N < i ∧ t (q % N) = q / N then ((un (q % N)).1, flip double (un (q % N)).2) else (0, 0)
structure PmB (w W : World) (N M g : Nat) (t : Nat → Nat) (un : Nat → C) (i : Nat) : Prop where
  bel : Below w.heap.size w W
  tp : PmT N t W w.heap.size
  bx : W.heap[g + 1]? = some (.cells #[.int .i64 (N : Nat), .int .i64 (N : Nat), .slice (some ⟨g, 0, none⟩) M M] 28)
  bz : W.heap[g + 1 + 1 + 1]? = some (.cells #[.int .i64 (N : Nat), .int .i64 (N : Nat), .slice (some ⟨g + 1 + 1, 0, none⟩) M M] 28)
  rx : rowGe W g 53 M (fun q => .complex .f64 (pmZ N t un i q).1 (pmZ N t un i q).2)
  rz : rowGe W (g + 1 + 1) 53 M (fun q => .complex .f64 (pmY N t un i q).1 (pmY N t un i q).2)
  lt : w.heap.size < g
theorem quiet_same' {P : Program} {f : FuncId} {args : Array Value} {w : World} {n : Nat} {v : Value}
    (h : Calls P f args (w.drewN n) fun e w' => e = .returned v ∧ w.drewN n = w') :
    Calls P f args (w.drewN n) fun e w'' => e = .returned v ∧ ∃ m, w'' = w.drewN m :=
  h.mono fun _ _ ⟨he, hm⟩ => ⟨he, n, hm.symm⟩
theorem PmB.below {w W V : World} {N M g : Nat} {t : Nat → Nat} {un : Nat → C} {i : Nat} (h : PmB w W N M g t un i) (hb : Below W.heap.size W V) : PmB w V N M g t un i :=
  ⟨h.bel.trans (hb.mono h.bel.size), ⟨h.tp.lt, h.tp.inj, h.tp.onto, h.tp.row.below hb h.tp.row.lt⟩, row_keep hb h.bx, row_keep hb h.bz, h.rx.below hb h.rx.lt, h.rz.below hb h.rz.lt, h.lt⟩
theorem wrap_lin {a b c q : Nat} (h : a * b + c = q) (hq : q ≤ 9223372036854775807) : IntKind.i64.wrap (IntKind.i64.wrap ((a : Int) * (b : Int)) + (c : Int)) = (q : Int) := by
  have e : (a : Int) * (b : Int) = ((a * b : Nat) : Int) := by simp
  rw [e]
  generalize a * b = m at h ⊢
  rw [IntKind.wrap_i64, IntKind.wrap_i64]; omega
theorem pmB_start {w wc : World} {N M : Nat} {t : Nat → Nat} (un : Nat → C) (hb : Below w.heap.size w wc) (ht : PmT N t wc w.heap.size) :
    PmB w ((((wc.alloc (.cells (madeCells #[.complex .f64 0 0] M) 53)).alloc (.cells #[.int .i64 (N : Nat), .int .i64 (N : Nat), .slice (some ⟨wc.heap.size, 0, none⟩) M M] 28)).alloc (.cells (madeCells #[.complex .f64 0 0] M) 53)).alloc (.cells #[.int .i64 (N : Nat), .int .i64 (N : Nat), .slice (some ⟨wc.heap.size + 1 + 1, 0, none⟩) M M] 28)) N M wc.heap.size t un 0 := by
  have hlt : w.heap.size < wc.heap.size := ht.row.lt
  obtain ⟨W1, e1⟩ : ∃ W1, W1 = wc.alloc (.cells (madeCells #[.complex .f64 0 0] M) 53) := ⟨_, rfl⟩
  have s1 : W1.heap.size = wc.heap.size + 1 := by rw [e1]; simp
  obtain ⟨W2, e2⟩ : ∃ W2, W2 = W1.alloc (.cells #[.int .i64 (N : Nat), .int .i64 (N : Nat), .slice (some ⟨wc.heap.size, 0, none⟩) M M] 28) := ⟨_, rfl⟩
  have s2 : W2.heap.size = wc.heap.size + 1 + 1 := by rw [e2]; simp [s1]
  obtain ⟨W3, e3⟩ : ∃ W3, W3 = W2.alloc (.cells (madeCells #[.complex .f64 0 0] M) 53) := ⟨_, rfl⟩
  have s3 : W3.heap.size = wc.heap.size + 1 + 1 + 1 := by rw [e3]; simp [s2]
  have b1 : Below wc.heap.size wc W1 := by rw [e1]; exact below_new _ _
  have b2 : Below W1.heap.size W1 W2 := by rw [e2]; exact below_new _ _
  have b3 : Below W2.heap.size W2 W3 := by rw [e3]; exact below_new _ _
  have r1 : rowGe W1 wc.heap.size 53 M (fun _ => .complex .f64 0 0) := by rw [e1]; exact mk_rowGe wc M
  have x2 : W2.heap[W1.heap.size]? = some (.cells #[.int .i64 (N : Nat), .int .i64 (N : Nat), .slice (some ⟨wc.heap.size, 0, none⟩) M M] 28) := by rw [e2]; exact heap_alloc_new _ _
  have r3 : rowGe W3 W2.heap.size 53 M (fun _ => .complex .f64 0 0) := by rw [e3]; exact mk_rowGe W2 M
  rw [← e1, ← e2, ← e3]
  have b4 := below_new W3 (.cells #[.int .i64 (N : Nat), .int .i64 (N : Nat), .slice (some ⟨wc.heap.size + 1 + 1, 0, none⟩) M M] 28)
  have x4 := heap_alloc_new W3 (.cells #[.int .i64 (N : Nat), .int .i64 (N : Nat), .slice (some ⟨wc.heap.size + 1 + 1, 0, none⟩) M M] 28)
  generalize W3.alloc (.cells #[.int .i64 (N : Nat), .int .i64 (N : Nat), .slice (some ⟨wc.heap.size + 1 + 1, 0, none⟩) M M] 28) = W4 at b4 x4 ⊢
  rw [s1] at x2
  rw [s2] at r3
  rw [s3] at x4
  have bc : Below wc.heap.size wc W4 := ((b1.trans (b2.mono b1.size)).trans (b3.mono (by omega))).trans (b4.mono (by omega))
  have z0 : ∀ q, pmZ N t un 0 q = (0, 0) := fun q => if_neg fun h => absurd h.1 (Nat.not_lt_zero _)
  have y0 : ∀ q, pmY N t un 0 q = (0, 0) := fun q => if_neg fun h => absurd h.1 (Nat.not_lt_zero _)
  refine ⟨hb.trans (bc.mono hb.size), ⟨ht.lt, ht.inj, ht.onto, ht.row.below bc hlt⟩, ?_, x4, ?_, ?_, hlt⟩
  · exact row_keep b4 (row_keep b3 x2)
  · refine (((r1.below b2 (by omega)).below b3 (by omega)).below b4 (by omega)).congr fun q _ => by rw [z0]
  · exact (r3.below b4 (by omega)).congr fun q _ => by rw [y0]
theorem pm_split {N i b q : Nat} (hb : b < N) (h : i * N + b = q) : q / N = i ∧ q % N = b := by
  subst h
  constructor
  · rw [Nat.mul_comm, Nat.mul_add_div (by omega), Nat.div_eq_of_lt hb, Nat.add_zero]
  · rw [Nat.mul_comm, Nat.mul_add_mod, Nat.mod_eq_of_lt hb]
theorem pm_join {N q : Nat} : q / N * N + q % N = q := by rw [Nat.mul_comm]; exact Nat.div_add_mod q N
/-- A row is written in the matrix; in the other one. -/
structure PmB2 (w W : World) (N M g : Nat) (t : Nat → Nat) (un : Nat → C) (i k : Nat) : Prop where
  bel : Below w.heap.size w W
  tp : PmT N t W w.heap.size
  bx : W.heap[g + 1]? = some (.cells #[.int .i64 (N : Nat), .int .i64 (N : Nat), .slice (some ⟨g, 0, none⟩) M M] 28)
  bz : W.heap[g + 1 + 1 + 1]? = some (.cells #[.int .i64 (N : Nat), .int .i64 (N : Nat), .slice (some ⟨g + 1 + 1, 0, none⟩) M M] 28)
  rx : rowGe W g 53 M (fun q => .complex .f64 (pmZ N t un i q).1 (pmZ N t un i q).2)
  rz : rowGe W (g + 1 + 1) 53 M (fun q => .complex .f64 (pmY N t un k q).1 (pmY N t un k q).2)
  lt : w.heap.size < g
theorem PmB.putX {w W : World} {N M g : Nat} {t : Nat → Nat} {un : Nat → C} {i ti q : Nat} (h : PmB w W N M g t un i) (hq : q = i * N + ti) (_hi : i < N) (ht : ti < N) (e : ti = t i) :
    PmB2 w (W.setCell ⟨g, q, none⟩ (.complex .f64 (un i).1 (un i).2)) N M g t un (i + 1) i where
  bel := h.bel.setCell (Nat.le_of_lt h.lt) _
  tp := ⟨h.tp.lt, h.tp.inj, h.tp.onto, h.tp.row.setOther (by have := h.lt; show _ ≠ g; omega) _⟩
  bx := (Below.heap_setCell _ _ _ _ (by show g + 1 ≠ g; omega)).trans h.bx
  bz := (Below.heap_setCell _ _ _ _ (by show g + 1 + 1 + 1 ≠ g; omega)).trans h.bz
  rx := (h.rx.set q _).congr fun p _ => by
    obtain ⟨s1, s2⟩ := pm_split ht hq.symm
    have key : pmZ N t un (i + 1) p = if p = q then un i else pmZ N t un i p := by
      unfold pmZ
      by_cases c : p = q
      · subst c
        rw [if_pos rfl, s1, s2, if_pos ⟨by omega, e.symm⟩]
      · rw [if_neg c]
        have : (p / N < i + 1 ∧ t (p / N) = p % N) ↔ (p / N < i ∧ t (p / N) = p % N) := by
          constructor
          · rintro ⟨a, b⟩
            refine ⟨?_, b⟩
            by_cases d : p / N = i
            · exfalso
              apply c
              rw [← pm_join (N := N) (q := p), d, ← b, d, ← e]; exact hq.symm
            · omega
          · rintro ⟨a, b⟩; exact ⟨by omega, b⟩
        simp only [this]
    show (if p = q then _ else _) = _
    rw [key]
    by_cases c : p = q
    · rw [if_pos c, if_pos c]
    · rw [if_neg c, if_neg c]
  rz := h.rz.setOther (by show g + 1 + 1 ≠ g; omega) _
  lt := h.lt
theorem PmB2.putY {w W : World} {N M g : Nat} {t : Nat → Nat} {un : Nat → C} {i ti q : Nat} (h : PmB2 w W N M g t un (i + 1) i) (hq : q = ti * N + i) (hi : i < N) (e : ti = t i) :
    PmB w (W.setCell ⟨g + 1 + 1, q, none⟩ (.complex .f64 (un i).1 (flip double (un i).2))) N M g t un (i + 1) where
  bel := h.bel.setCell (by have := h.lt; show _ ≤ g + 1 + 1; omega) _
  tp := ⟨h.tp.lt, h.tp.inj, h.tp.onto, h.tp.row.setOther (by have := h.lt; show _ ≠ g + 1 + 1; omega) _⟩
  bx := (Below.heap_setCell _ _ _ _ (by show g + 1 ≠ g + 1 + 1; omega)).trans h.bx
  bz := (Below.heap_setCell _ _ _ _ (by show g + 1 + 1 + 1 ≠ g + 1 + 1; omega)).trans h.bz
  rx := h.rx.setOther (by show g ≠ g + 1 + 1; omega) _
  rz := (h.rz.set q _).congr fun p _ => by
    obtain ⟨s1, s2⟩ := pm_split hi hq.symm
    have key : pmY N t un (i + 1) p = if p = q then ((un i).1, flip double (un i).2) else pmY N t un i p := by
      unfold pmY
      by_cases c : p = q
      · subst c
        rw [if_pos rfl, s1, s2, if_pos ⟨by omega, e.symm⟩]
      · rw [if_neg c]
        have : (p % N < i + 1 ∧ t (p % N) = p / N) ↔ (p % N < i ∧ t (p % N) = p / N) := by
          constructor
          · rintro ⟨a, b⟩
            refine ⟨?_, b⟩
            by_cases d : p % N = i
            · exfalso
              apply c
              rw [← pm_join (N := N) (q := p), ← b, d, ← e]; exact hq.symm
            · omega
          · rintro ⟨a, b⟩; exact ⟨by omega, b⟩
        simp only [this]
    show (if p = q then _ else _) = _
    rw [key]
    by_cases c : p = q
    · rw [if_pos c, if_pos c]
    · rw [if_neg c, if_neg c]
  lt := h.lt
theorem PmB2.below {w W V : World} {N M g : Nat} {t : Nat → Nat} {un : Nat → C} {i k : Nat} (h : PmB2 w W N M g t un i k) (hb : Below W.heap.size W V) : PmB2 w V N M g t un i k :=
  ⟨h.bel.trans (hb.mono h.bel.size), ⟨h.tp.lt, h.tp.inj, h.tp.onto, h.tp.row.below hb h.tp.row.lt⟩, row_keep hb h.bx, row_keep hb h.bz, h.rx.below hb h.rx.lt, h.rz.below hb h.rz.lt, h.lt⟩
def pmL (N M : Nat) (t : Nat → Nat) (un : Nat → C) : List C := (List.range M).map (pmZ N t un N)
def pmM (N M : Nat) (t : Nat → Nat) (un : Nat → C) : List C := (List.range M).map (pmY N t un N)
theorem pmL_ok {W : World} {p N M : Nat} {t : Nat → Nat} {un : Nat → C} {f : Nat → Int} (hun : un = fun i => unitW (f i)) (h : PmT N t W p) (hM : M = N * N) (h0 : 0 < N) (h64 : N ≤ 64) :
    PmL N t (fun i => unR (f i)) (fun i => unI (f i)) (pmL N M t un) where
  P := ⟨h.lt, h.inj, h.onto, fun i _ => (unitW_cx (f i)).2.1, h64⟩
  n0 := h0
  len := by simp [pmL, hM]
  lt z hz := by
    obtain ⟨q, _, rfl⟩ := List.mem_map.1 hz
    unfold pmZ
    split
    · rw [hun]; exact (unitW_cx _).2.2
    · exact ⟨by decide, by decide⟩
  cx i j hi hj := by
    have hq : i * N + j < M := by
      rw [hM]
      have h1 : (i + 1) * N ≤ N * N := Nat.mul_le_mul_right _ hi
      rw [Nat.add_mul, Nat.one_mul] at h1; omega
    obtain ⟨s1, s2⟩ := pm_split (i := i) hj rfl
    unfold matE pmL
    rw [List.getD_eq_getElem?_getD, List.getElem?_map, List.getElem?_range hq]
    show Cx (pmZ N t un N (i * N + j)) _ _
    unfold pmZ pmE
    rw [s1, s2]
    by_cases e : t i = j
    · rw [if_pos ⟨hi, e⟩, if_pos e, if_pos e, hun]; exact (unitW_cx _).1
    · rw [if_neg (fun g => e g.2), if_neg e, if_neg e]; exact Cx.nought
theorem pm_same {W : World} {p N M : Nat} {t : Nat → Nat} {un : Nat → C} {f : Nat → Int} (hun : un = fun i => unitW (f i)) (h : PmT N t W p) (hM : M = N * N) (h0 : 0 < N) (h64 : N ≤ 64) (k : Nat) (x y : C)
    (hx : (entries N (invE N (ofS N (pmL N M t un))) M)[k]? = some x) (hy : (pmM N M t un)[k]? = some y) : pEqual (cnC x) (cnC y) = true := by
  have hl := pmL_ok hun h hM h0 h64
  have hk : k < M := by
    rcases Nat.lt_or_ge k M with h | h
    · exact h
    · rw [List.getElem?_eq_none (by simpa [pmM] using h)] at hy; cases hy
  have hj := Nat.mod_lt k h0
  have hi : k / N < N := Nat.div_lt_of_lt_mul (by rw [← hM]; exact hk)
  unfold entries at hx
  unfold pmM at hy
  rw [List.getElem?_map, List.getElem?_range hk] at hx hy
  have ex : invE N (ofS N (pmL N M t un)) (k / N) (k % N) = x := Option.some.inj hx
  have ey : pmY N t un N k = y := Option.some.inj hy
  rw [← ex, ← ey]
  refine cx_equal ((hl.col hj).1 _ hi) ?_
  unfold pmY
  by_cases e : t (k % N) = k / N
  · rw [if_pos ⟨hj, e⟩, if_pos e, if_pos e, hun]
    have := (unitW_cx (f (k % N))).1
    exact ⟨this.1, ex_flip this.2⟩
  · rw [if_neg (fun g => e g.2), if_neg e, if_neg e]; exact Cx.nought
theorem row_reads {W : World} {g M : Nat} {f : Nat → C} (h : rowGe W g 53 M (fun q => .complex .f64 (f q).1 (f q).2)) : Reads W W.heap.size (some ⟨g, 0, none⟩) (nums ((List.range M).map f)) := fun _ =>
  ⟨⟨g, 0, none⟩, rfl, h.lt, fun j u hj => by
    have hlt : j < M := by
      rcases Nat.lt_or_ge j M with h | h
      · exact h
      · rw [List.getElem?_eq_none (by simpa [nums] using h)] at hj; cases hj
    have e : u = .complex .f64 (f j).1 (f j).2 := by
      rw [show nums ((List.range M).map f) = (List.range M).map (fun q => Value.complex .f64 (f q).1 (f q).2) by simp [nums]] at hj
      rw [List.getElem?_map, List.getElem?_range hlt] at hj
      exact (Option.some.inj hj).symm
    rw [e]
    have e2 : (⟨g, 0, none⟩ : Addr).add j = ⟨g, j, none⟩ := by unfold Addr.add; split <;> simp_all
    rw [e2]
    exact h.cell hlt⟩
set_option linter.unusedSimpArgs false in
set_option maxHeartbeats 8000000 in
theorem Permutes12 (n : Int) (A : Option Addr) (lo : List Int) (cap : Nat) (B : Option Addr) (lt : List Int) (capt : Nat) (w : World) (hr : Reads w w.heap.size A (zints lo)) (hrt : Reads w w.heap.size B (zints lt)) :
    Calls Try.prog 7 #[.int .i64 n, .slice A lo.length cap, .slice B lt.length capt] w fun e w' => e = .returned (.bool true) ∧ Below w.heap.size w w' := by
  obtain ⟨K, hK⟩ : ∃ K : Nat, (K : Int) = n % 64 := ⟨(n % 64).toNat, by omega⟩
  have hK64 : K < 64 := by omega
  have hP := Lib.hid (fun W => Pick_c n 64 (by omega) (by omega) W)
  rw [← hK] at hP
  obtain ⟨N, hN⟩ : ∃ N : Nat, N = 1 + K := ⟨_, rfl⟩
  have hN1 : 1 + (K : Int) = (N : Int) := by omega
  have hN64 : N ≤ 64 := by omega
  have hN0 : 1 ≤ N := by omega
  have HR := Lib.hid hr
  have HRt := Lib.hid hrt
  have hmk := run_make_row' (P := Try.prog) 51 3 (.int .i64 0) 8 Try.underlying51 infoInt9 rfl .i64 .i64 N (by omega) (by omega)
  clear hr hrt hK hN
  go_enter Try.func7, Try.ntmps7
  go_wp2_with (go_at_call 23; refine (hP.out _).mono ?_; rintro e w' ⟨rfl, rfl⟩)
  go_loopw [8] (fun i wr => ∃ j : Nat, j ≤ N ∧ i = .int .i64 (j : Nat) ∧ Below w.heap.size w wr ∧ rowGe wr w.heap.size 3 N (fun a => if a < j then .int .i64 (a : Nat) else .int .i64 0)) (fun i _ => N - (intOf i).toNat)
  case atStart => exact ⟨0, Nat.zero_le _, rfl, below_new _ _, (mk_rowI w N).congr fun a _ => by rw [if_neg (by omega)]⟩
  case round =>
    obtain ⟨j, hj, rfl, hb, hrow⟩ := hrel
    have HB := Lib.hid hb
    have HRow := Lib.hid hrow
    clear hb hrow
    by_cases hlt : j < N
    · have hji : (j : Int) < (N : Int) := Int.ofNat_lt.2 hlt
      have hf := HRow.out.frozen j
      have hc := HRow.out.cell hlt
      go_wp2
      go_roundw
      case rel =>
        refine ⟨j + 1, hlt, by go_num, HB.out.setCell (Nat.le_refl _) _, (HRow.out.set j _).congr fun a ha => ?_⟩
        by_cases e : a = j
        · subst e; rw [if_pos rfl, if_pos (by omega)]
        · rw [if_neg e]
          by_cases e2 : a < j
          · rw [if_pos e2, if_pos (by omega)]
          · rw [if_neg e2, if_neg (by omega)]
      case measure => simp [intOf]; omega
    · have e : N = j := by omega
      subst e
      have HT := Lib.hid (show PmT N id wr w.heap.size from ⟨fun i hi => hi, fun _ _ _ _ e => e, fun r hr => ⟨r, hr, rfl⟩, HRow.out.congr fun a ha => by rw [if_pos ha]; rfl⟩)
      clear HRow
      go_upto_block 2 with fail
      go_cut [9, 10, 11] (fun _ _ _ wx => ∃ t, Below w.heap.size w wx ∧ PmT N t wx w.heap.size)
      case first =>
        go_wp2_with fail
        go_loopw [9] (fun i wq => ∃ (j : Nat) (t : Nat → Nat), j ≤ 200 ∧ i = .int .i64 (j : Nat) ∧ Below w.heap.size w wq ∧ PmT N t wq w.heap.size) (fun i _ => 200 - (intOf i).toNat)
        case atStart => exact ⟨0, id, Nat.zero_le _, rfl, HB.out, HT.out⟩
        case round =>
          rename World => w0
          obtain ⟨j, t, hj, rfl, hb, ht⟩ := hrel
          have HBw := Lib.hid hb
          have HTw := Lib.hid ht
          clear hb ht
          have hj201 : (j : Int) + 1 ≤ 201 := by omega
          by_cases h1 : j < lo.length
          · have h1i : (j : Int) < (lo.length : Int) := Int.ofNat_lt.2 h1
            by_cases h2 : j < 200
            · have h2i : (j : Int) < 200 := by omega
              obtain ⟨x, hx⟩ : ∃ x, lo[j]? = some x := ⟨lo[j], List.getElem?_eq_getElem h1⟩
              have hxz : (zints lo)[j]? = some (.int .i64 x) := by unfold zints; rw [List.getElem?_map, hx]; rfl
              obtain ⟨ad, rfl, hab, hc1⟩ := (HR.out.below HBw.out).at_ hxz
              obtain ⟨pa, hpa⟩ : ∃ pa : Nat, (pa : Int) = x % (N : Int) := ⟨(x % (N : Int)).toNat, by have := Int.emod_nonneg x (show (N : Int) ≠ 0 by omega); omega⟩
              have hpaN : pa < N := by have := Int.emod_lt_of_pos x (show (0 : Int) < N by omega); omega
              have hPk := Lib.hid (fun W => Pick_c x (N : Int) (by omega) (by omega) W)
              rw [← hpa] at hPk
              obtain ⟨pb, hpb⟩ : ∃ pb, pb = j % N := ⟨_, rfl⟩
              have hpbN : pb < N := by rw [hpb]; exact Nat.mod_lt _ (by omega)
              have hrem : IntKind.i64.wrap ((j : Int).tmod (N : Int)) = (pb : Int) := by
                rw [hpb, Int.tmod_eq_emod_of_nonneg (by omega)]
                rw [IntKind.wrap_i64]; omega
              have hpbI : (j : Int) % (N : Int) = (pb : Int) := by rw [hpb]; omega
              clear hx hxz hpa hpb
              have hNz : ((N : Int) == 0) = false := by simp; omega
              have hd1 : ∀ D, (w0.drewN D).cell? (ad.add j) = some (.int .i64 x) := fun D => hc1
              go_wp2_with fail
              go_quiet ((go_at_call 23; (with_reducible refine quiet_same' (hPk.out _))))
              have HT1 := Lib.hid (hTw_drewN HTw.out nq)
              have HB1 := Lib.hid (below_drewN HBw.out nq)
              generalize w0.drewN nq = w1 at HT1 HB1 ⊢
              clear hd1 hPk hc1 hab hrem
              go_wp2_with fail
              try rw [hpbI]
              have qa := HT1.out.row.cell hpaN
              have qb := HT1.out.row.cell hpbN
              have fa := HT1.out.row.frozen pa
              have fb := HT1.out.row.frozen pb
              have hs1 : rowGe (w1.setCell ⟨w.heap.size, pa, none⟩ (.int .i64 (t pb : Nat))) w.heap.size 3 N (fun a => if a = pa then .int .i64 (t pb : Nat) else .int .i64 (t a : Nat)) := rowGe.set (W := w1) (f := fun a => .int .i64 (t a : Nat)) HT1.out.row pa _
              have cb2 : (w1.setCell ⟨w.heap.size, pa, none⟩ (.int .i64 (t pb : Nat))).cell? ⟨w.heap.size, pb, none⟩ = some (.int .i64 (t pb : Nat)) := by
                rw [hs1.cell hpbN]
                by_cases e : pb = pa
                · rw [if_pos e]
                · rw [if_neg e]
              have fb2 := hs1.frozen pb
              clear hs1
              have hpai : (pa : Int) < (N : Int) := Int.ofNat_lt.2 hpaN
              have hpbi : (pb : Int) < (N : Int) := Int.ofNat_lt.2 hpbN
              refine wp_region_K 13 (by kernel_rfl) (fun V => V = w1.drew) (by kernel_rfl) (fun hsel hcl => ?_)
              refine wpAnyK_takeFree (i := 0) (v := ?va0) rfl hsel hcl (by kernel_rfl) (by kernel_rfl) rfl (fun _ _ _ h => h) rfl rfl ?hya0 (fun hcl => ?ha0)
              case hya0 => (intro w'; go_simp; first | done | with_reducible rfl)
              simp only [Act.put, List.setIfInBounds_toArray, List.set_cons_zero, List.set_cons_succ]
              refine wpAnyK_takeFree (i := 1) (v := ?va1) rfl hsel hcl (by kernel_rfl) (by kernel_rfl) rfl (fun _ _ _ h => h) rfl rfl ?hya1 (fun hcl => ?ha1)
              case hya1 => (intro w'; go_simp; first | done | with_reducible rfl)
              simp only [Act.put, List.setIfInBounds_toArray, List.set_cons_zero, List.set_cons_succ]
              refine wpAnyK_takeFree (i := 2) (v := ?va2) rfl hsel hcl (by kernel_rfl) (by kernel_rfl) rfl (fun _ _ _ h => h) rfl rfl ?hya2 (fun hcl => ?ha2)
              case hya2 => (intro w'; go_simp; first | done | with_reducible rfl)
              simp only [Act.put, List.setIfInBounds_toArray, List.set_cons_zero, List.set_cons_succ]
              refine wpAnyK_takeFree (i := 3) (v := ?va3) rfl hsel hcl (by kernel_rfl) (by kernel_rfl) rfl (fun _ _ _ h => h) rfl rfl ?hya3 (fun hcl => ?ha3)
              case hya3 => (intro w'; go_simp; first | done | with_reducible rfl)
              simp only [Act.put, List.setIfInBounds_toArray, List.set_cons_zero, List.set_cons_succ]
              refine wpAnyK_takeFree (i := 4) (v := ?va4) rfl hsel hcl (by kernel_rfl) (by kernel_rfl) rfl (fun _ _ _ h => h) rfl rfl ?hya4 (fun hcl => ?ha4)
              case hya4 => (intro w'; go_simp; first | done | with_reducible rfl)
              simp only [Act.put, List.setIfInBounds_toArray, List.set_cons_zero, List.set_cons_succ]
              refine wpAnyK_takeFree (i := 5) (v := ?va5) rfl hsel hcl (by kernel_rfl) (by kernel_rfl) rfl (fun _ _ _ h => h) rfl rfl ?hya5 (fun hcl => ?ha5)
              case hya5 => (intro w'; go_simp; first | done | with_reducible rfl)
              simp only [Act.put, List.setIfInBounds_toArray, List.set_cons_zero, List.set_cons_succ]
              refine wpAnyK_takeFree (i := 6) (v := ?va6) rfl hsel hcl (by kernel_rfl) (by kernel_rfl) rfl (fun _ _ _ h => h) rfl rfl ?hya6 (fun hcl => ?ha6)
              case hya6 => (intro w'; go_simp; first | done | with_reducible rfl)
              simp only [Act.put, List.setIfInBounds_toArray, List.set_cons_zero, List.set_cons_succ]
              refine wpAnyK_takeNeed [] (i := 7) (v := ?va7) rfl hsel hcl (by kernel_rfl) (by kernel_rfl) rfl (by decide +kernel) (fun _ _ _ h => h) rfl rfl ?hya7 (fun hcl => ?ha7)
              case hya7 => (rintro w' rfl; go_simp; first | done | with_reducible rfl)
              simp only [Act.put, List.setIfInBounds_toArray, List.set_cons_zero, List.set_cons_succ]
              refine wpAnyK_takeFree (i := 8) (v := ?va8) rfl hsel hcl (by kernel_rfl) (by kernel_rfl) rfl (fun _ _ _ h => h) rfl rfl ?hya8 (fun hcl => ?ha8)
              case hya8 => (intro w'; go_simp; first | done | with_reducible rfl)
              simp only [Act.put, List.setIfInBounds_toArray, List.set_cons_zero, List.set_cons_succ]
              refine wpAnyK_takeFree (i := 9) (v := ?va9) rfl hsel hcl (by kernel_rfl) (by kernel_rfl) rfl (fun _ _ _ h => h) rfl rfl ?hya9 (fun hcl => ?ha9)
              case hya9 => (intro w'; go_simp; first | done | with_reducible rfl)
              simp only [Act.put, List.setIfInBounds_toArray, List.set_cons_zero, List.set_cons_succ]
              refine wpAnyK_takeFree (i := 10) (v := ?va10) rfl hsel hcl (by kernel_rfl) (by kernel_rfl) rfl (fun _ _ _ h => h) rfl rfl ?hya10 (fun hcl => ?ha10)
              case hya10 => (intro w'; go_simp; first | done | with_reducible rfl)
              simp only [Act.put, List.setIfInBounds_toArray, List.set_cons_zero, List.set_cons_succ]
              refine wpAnyK_takeNeed [] (i := 11) (v := ?va11) rfl hsel hcl (by kernel_rfl) (by kernel_rfl) rfl (by decide +kernel) (fun _ _ _ h => h) rfl rfl ?hya11 (fun hcl => ?ha11)
              case hya11 => (rintro w' rfl; go_simp; first | done | with_reducible rfl)
              simp only [Act.put, List.setIfInBounds_toArray, List.set_cons_zero, List.set_cons_succ]
              refine wpAnyK_takeFree (i := 12) (v := ?va12) rfl hsel hcl (by kernel_rfl) (by kernel_rfl) rfl (fun _ _ _ h => h) rfl rfl ?hya12 (fun hcl => ?ha12)
              case hya12 => (intro w'; go_simp; first | done | with_reducible rfl)
              simp only [Act.put, List.setIfInBounds_toArray, List.set_cons_zero, List.set_cons_succ]
              refine wpAnyK_store (st := 13) rfl (by decide +kernel) rfl ?_
              go_simp
              refine wpAny_one (i := 14) rfl (by decide +kernel) rfl ?_
              go_simp
              refine wpAny_one (i := 15) rfl (by decide +kernel) rfl ?_
              go_simp
              refine wpAny_done (by decide +kernel) ?_ _
              clear qa qb fa fb cb2 fb2 hpai hpbi
              go_wp2
              go_roundw
              case rel => exact ⟨j + 1, fun i => t (xch pa pb i), by omega, by go_num, ((HB1.out.setCell (Nat.le_refl _) _).setCell (Nat.le_refl _) _).drew, pmT_drew (HT1.out.swap hpaN hpbN)⟩
              case measure => simp [intOf]; omega
            · have h2i : ¬ (j : Int) < 200 := by omega
              go_wp2
              go_meet
              case rel => exact ⟨t, HBw.out, HTw.out⟩
          · have h1i : ¬ (j : Int) < (lo.length : Int) := by omega
            go_wp2
            go_meet
            case rel => exact ⟨t, HBw.out, HTw.out⟩
      case rest =>
        rename World => wz
        obtain ⟨t, hb, ht⟩ := hcut
        obtain ⟨M, hM⟩ : ∃ M, M = N * N := ⟨_, rfl⟩
        have hM4 : M ≤ 4096 := by rw [hM]; exact prod_small hN64 hN64
        have hm : wrap64 ((N : Int) * (N : Int)) = (M : Int) := by rw [hM, ← Int.natCast_mul, ← hM]; unfold wrap64; omega
        have hmk2 := run_make_row' (P := Try.prog) 25 53 (.complex .f64 0 0) 16 Try.underlying25 infoNum rfl .i64 .i64 M (by omega) (by omega)
        have HBc := Lib.hid hb
        have HTc := Lib.hid ht
        have HM := Lib.hid hM
        obtain ⟨un, hun⟩ : ∃ un : Nat → C, un = fun i => unitW (lt.getD i 0 % 4) := ⟨_, rfl⟩
        have HUn := Lib.hid hun
        clear hb ht hM HT HB hmk hun
        have HS0 := Lib.hid (pmB_start (M := M) un HBc.out HTc.out)
        go_wp2
        clear hm hmk2
        go_loopw [14, 15, 16] (fun i _ _ wr => ∃ j : Nat, j ≤ N ∧ i = .int .i64 (j : Nat) ∧ PmB w wr N M wz.heap.size t un j) (fun i _ _ _ => N - (intOf i).toNat)
        case atStart => exact ⟨0, Nat.zero_le _, rfl, HS0.out⟩
        case round =>
          obtain ⟨j, hj, rfl, hs⟩ := hrel
          have HS := Lib.hid hs
          clear hs HS0 HBc HTc
          by_cases hlt : j < N
          · have hlti : (j : Int) < (N : Int) := Int.ofNat_lt.2 hlt
            have hjb : (j : Int) + 1 ≤ 65 := by omega
            obtain ⟨kv, hkv⟩ : ∃ kv, kv = lt.getD j 0 := ⟨_, rfl⟩
            have hu : unitW (kv % 4) = un j := by rw [HUn.out, hkv]
            have HU := Lib.hid hu
            have HKv := Lib.hid hkv
            clear hu hkv
            obtain ⟨bb, hbb⟩ : ∃ bb, decide (j < lt.length) = bb := ⟨_, rfl⟩
            have HBB := Lib.hid hbb
            go_upto_if 92 with fail
            clear hbb
            go_cut [15] (fun s wx => s = .int .i64 kv ∧ wx = wr)
            case first =>
              cases bb
              · have hl2 : ¬ j < lt.length := of_decide_eq_false HBB.out
                have hk0 : kv = 0 := by rw [HKv.out, List.getD_eq_getElem?_getD, List.getElem?_eq_none (by omega)]; rfl
                subst hk0
                clear hl2
                go_wp2
                go_meet
                case rel => exact ⟨rfl, rfl⟩
              · have hl2 : j < lt.length := of_decide_eq_true HBB.out
                have hl2i : (j : Int) < (lt.length : Int) := Int.ofNat_lt.2 hl2
                have hxz : (zints lt)[j]? = some (.int .i64 kv) := by rw [HKv.out]; unfold zints; rw [List.getElem?_map, List.getD_eq_getElem?_getD, List.getElem?_eq_getElem hl2]; rfl
                obtain ⟨ad, rfl, hab, hc1⟩ := (HRt.out.below HS.out.bel).at_ hxz
                clear hxz hab
                go_wp2
                go_meet
                case rel => exact ⟨rfl, rfl⟩
            case rest =>
              obtain ⟨rfl, rfl⟩ := hcut
              have hun2 := Lib.hid (fun W => unit12_c kv W)
              rw [HU.out] at hun2
              go_wp2_with fail
              refine (hun2.out _).mono ?_
              rintro e V ⟨rfl, hbV⟩
              have HSV := Lib.hid (HS.out.below hbV)
              clear hbV hun2
              obtain ⟨bx0, bx1, bx2, -⟩ := box3 HSV.out.bx
              obtain ⟨bz0, bz1, bz2, -⟩ := box3 HSV.out.bz
              have ha := HSV.out.tp.row.cell hlt
              obtain ⟨ti, hti⟩ : ∃ ti, ti = t j := ⟨_, rfl⟩
              have htn : ti < N := by rw [hti]; exact HSV.out.tp.lt j hlt
              rw [← hti] at ha
              have hq1 : j * N + ti < M := by
                rw [HM.out]
                have h1 : (j + 1) * N ≤ N * N := Nat.mul_le_mul_right _ hlt
                rw [Nat.add_mul, Nat.one_mul] at h1; omega
              have hq2 : ti * N + j < M := by
                rw [HM.out]
                have h1 : (ti + 1) * N ≤ N * N := Nat.mul_le_mul_right _ htn
                rw [Nat.add_mul, Nat.one_mul] at h1; omega
              obtain ⟨q1, hq1e⟩ : ∃ q, j * N + ti = q := ⟨_, rfl⟩
              obtain ⟨q2, hq2e⟩ : ∃ q, ti * N + j = q := ⟨_, rfl⟩
              rw [hq1e] at hq1
              rw [hq2e] at hq2
              have hw1 : IntKind.i64.wrap (IntKind.i64.wrap ((j : Int) * (N : Int)) + (ti : Int)) = (q1 : Int) := wrap_lin hq1e (by omega)
              have hw2 : IntKind.i64.wrap (IntKind.i64.wrap ((ti : Int) * (N : Int)) + (j : Int)) = (q2 : Int) := wrap_lin hq2e (by omega)
              have hq1i : (q1 : Int) < (M : Int) := Int.ofNat_lt.2 hq1
              have hq2i : (q2 : Int) < (M : Int) := Int.ofNat_lt.2 hq2
              have c1 := HSV.out.rx.cell hq1
              have c1f := HSV.out.rx.frozen q1
              have HQ1 := Lib.hid hq1e
              have HQ2 := Lib.hid hq2e
              have HTi := Lib.hid hti
              clear hq1e hq2e hti HU HKv HBB
              go_wp2_with fail
              go_still_tail 12, (by kernel_rfl)
              change wpList _ _ _ _ _ V.drew
              have HSD := Lib.hid ((HSV.out.putX HQ1.out.symm hlt htn HTi.out).below (Below.refl _ _).drew)
              have d1f : V.drew.frozen? ⟨wz.heap.size, q1, none⟩ = false := c1f
              obtain ⟨v1, d1⟩ : ∃ v, V.drew.cell? ⟨wz.heap.size, q1, none⟩ = some v := ⟨_, c1⟩
              go_wp2_with fail
              clear d1f d1 c1 c1f bx0 bx1 bx2 bz0 bz1 bz2 ha hw1 HSV
              generalize (V.setCell ⟨wz.heap.size, q1, none⟩ (.complex .f64 (un j).1 (un j).2)).drew = V2 at HSD ⊢
              obtain ⟨bz0, bz1, bz2, -⟩ := box3 HSD.out.bz
              have ha := HSD.out.tp.row.cell hlt
              rw [← HTi.out] at ha
              have c2 := HSD.out.rz.cell hq2
              have c2f := HSD.out.rz.frozen q2
              have HS3 := Lib.hid ((HSD.out.putY HQ2.out.symm hlt HTi.out).below (Below.refl _ _).drew)
              go_still_tail 17, (by kernel_rfl)
              change wpList _ _ _ _ _ V2.drew
              have d2f : V2.drew.frozen? ⟨wz.heap.size + 1 + 1, q2, none⟩ = false := c2f
              obtain ⟨v2, d2⟩ : ∃ v, V2.drew.cell? ⟨wz.heap.size + 1 + 1, q2, none⟩ = some v := ⟨_, c2⟩
              go_wp2
              go_roundw
              case rel => exact ⟨j + 1, hlt, by go_num, HS3.out⟩
              case measure => simp [intOf]; omega
          · have e : N = j := by omega
            subst e
            have hPL := pmL_ok HUn.out HS.out.tp HM.out hN0 hN64
            have hsame := pm_same HUn.out HS.out.tp HM.out hN0 hN64
            obtain ⟨L, hL⟩ : ∃ L, L = pmL N M t un := ⟨_, rfl⟩
            obtain ⟨R, hR⟩ : ∃ R, R = pmM N M t un := ⟨_, rfl⟩
            have hRl : R.length = M := by rw [hR]; simp [pmM]
            have hrdL : Reads wr wr.heap.size (some ⟨wz.heap.size, 0, none⟩) (nums L) := by rw [hL]; exact row_reads HS.out.rx
            have hrdR : Reads wr wr.heap.size (some ⟨wz.heap.size + 1 + 1, 0, none⟩) (nums R) := by rw [hR]; exact row_reads HS.out.rz
            rw [← hL] at hPL hsame
            rw [← hR] at hsame
            obtain ⟨X, hX⟩ : ∃ X, X = entries N (invE N (ofS N L)) M := ⟨_, rfl⟩
            have HInv := Lib.hid (fun V => pm_inv hPL HM.out (some ⟨wz.heap.size, 0, none⟩) M V (Nat.le_refl _))
            have HCar := Lib.hid (fun V => pm_car hPL HM.out (some ⟨wz.heap.size, 0, none⟩) M V (Nat.le_refl _))
            have HOff := Lib.hid (fun A' c' V (q1 : Reads V V.heap.size (some ⟨wz.heap.size, 0, none⟩) (nums L)) => pm_off hPL HM.out (some ⟨wz.heap.size, 0, none⟩) A' M c' V ⟨q1, (fun e => by cases e), by rw [hPL.len, HM.out]; exact Nat.le_refl _, hPL.lt⟩)
            rw [← hX] at hsame HInv HOff
            have hXl : X.length = M := by rw [hX]; simp [entries]
            have HEq := Lib.hid (fun (A' : Option Addr) (c' : Nat) (V : World) (r1 : Reads V V.heap.size A' (nums X)) (r2 : Reads V V.heap.size (some ⟨wz.heap.size + 1 + 1, 0, none⟩) (nums R)) =>
              EqualMatrix_t N N A' (some ⟨wz.heap.size + 1 + 1, 0, none⟩) X R M c' M V hXl hRl hsame (by omega) r1 r2)
            have K0 := Lib.hid (Kp.mk (w := w) HS.out.bel (rows := [(wz.heap.size + 1, .cells #[.int .i64 (N : Nat), .int .i64 (N : Nat), .slice (some ⟨wz.heap.size, 0, none⟩) M M] 28), (wz.heap.size + 1 + 1 + 1, .cells #[.int .i64 (N : Nat), .int .i64 (N : Nat), .slice (some ⟨wz.heap.size + 1 + 1, 0, none⟩) M M] 28)]) (rds := [(some ⟨wz.heap.size, 0, none⟩, L), (some ⟨wz.heap.size + 1 + 1, 0, none⟩, R)]) (by
              intro p hp; simp at hp; rcases hp with rfl | rfl
              · exact HS.out.bx
              · exact HS.out.bz) (by
              intro p hp; simp at hp; rcases hp with rfl | rfl
              · exact hrdL
              · exact hrdR))
            obtain ⟨bx0, bx1, bx2, -⟩ := box3 HS.out.bx
            clear hPL hsame hL hR hRl hrdL hrdR hX hXl HS HR HRt
            go_wp2_with fail
            refine (HInv.out _ (K0.out.rd (some ⟨wz.heap.size, 0, none⟩, L) (by simp))).mono ?_
            rintro e W1 ⟨A1, c1, rfl, hly, hb⟩
            have K1 := Lib.hid (((K0.out.below hb).addR hly.reads).new2 (.cells #[.int .i64 (N : Nat), .int .i64 (N : Nat), .slice A1 M c1] 28) (.cells #[.int .i64 0, .int .i64 0] 43))
            have HLy := Lib.hid (And.intro hly.none (And.intro hly.fits hly.lt))
            obtain ⟨bx0, bx1, bx2, -⟩ := box3 (K1.out.row (wz.heap.size + 1, .cells #[.int .i64 (N : Nat), .int .i64 (N : Nat), .slice (some ⟨wz.heap.size, 0, none⟩) M M] 28) (by simp))
            clear hly hb K0 HInv
            go_wp2_with fail
            refine (HCar.out _ (K1.out.rd (some ⟨wz.heap.size, 0, none⟩, L) (by simp))).mono ?_
            rintro e W2 ⟨rfl, hb⟩
            have K2 := Lib.hid ((K1.out.below hb).new (.cells #[.int .i64 0, .int .i64 0] 43))
            obtain ⟨bx0, bx1, bx2, -⟩ := box3 (K2.out.row (wz.heap.size + 1, .cells #[.int .i64 (N : Nat), .int .i64 (N : Nat), .slice (some ⟨wz.heap.size, 0, none⟩) M M] 28) (by simp))
            obtain ⟨cx0, cx1, cx2, -⟩ := box3 (K2.out.row (W1.heap.size, .cells #[.int .i64 (N : Nat), .int .i64 (N : Nat), .slice A1 M c1] 28) (by simp))
            clear hb K1 HCar
            go_wp2_with fail
            refine (HOff.out A1 c1 _ (K2.out.rd (some ⟨wz.heap.size, 0, none⟩, L) (by simp)) ⟨K2.out.rd (A1, X) (by simp), HLy.out.1, HLy.out.2.1, HLy.out.2.2⟩).mono ?_
            rintro e W3 ⟨rfl, hb⟩
            have K3 := Lib.hid (K2.out.below hb)
            clear hb K2 HOff HLy bx0 bx1 bx2 cx0 cx1 cx2
            have HK := Lib.hid (fun (V : World) (hV : Below W3.heap.size W3 V) => (show V.cell? ⟨W1.heap.size, 0, none⟩ = some (.int .i64 (N : Nat)) ∧ V.cell? ⟨W1.heap.size, 1, none⟩ = some (.int .i64 (N : Nat)) ∧ V.cell? ⟨W1.heap.size, 2, none⟩ = some (.slice A1 M c1) ∧ V.cell? ⟨wz.heap.size + 1 + 1 + 1, 0, none⟩ = some (.int .i64 (N : Nat)) ∧ V.cell? ⟨wz.heap.size + 1 + 1 + 1, 1, none⟩ = some (.int .i64 (N : Nat)) ∧ V.cell? ⟨wz.heap.size + 1 + 1 + 1, 2, none⟩ = some (.slice (some ⟨wz.heap.size + 1 + 1, 0, none⟩) M M) ∧ V.cell? ⟨W1.heap.size + 1, 0, none⟩ = some (.int .i64 0) ∧ V.cell? ⟨W1.heap.size + 1, 1, none⟩ = some (.int .i64 0) ∧ V.cell? ⟨W2.heap.size, 0, none⟩ = some (.int .i64 0) ∧ V.cell? ⟨W2.heap.size, 1, none⟩ = some (.int .i64 0) from by
              have hk := (K3.out.below hV).row
              obtain ⟨a0, a1, a2, -⟩ := box3 (hk (W1.heap.size, .cells #[.int .i64 (N : Nat), .int .i64 (N : Nat), .slice A1 M c1] 28) (by simp))
              obtain ⟨b0, b1, b2, -⟩ := box3 (hk (wz.heap.size + 1 + 1 + 1, .cells #[.int .i64 (N : Nat), .int .i64 (N : Nat), .slice (some ⟨wz.heap.size + 1 + 1, 0, none⟩) M M] 28) (by simp))
              obtain ⟨p0, p1, -⟩ := row2 (hk (W1.heap.size + 1, .cells #[.int .i64 0, .int .i64 0] 43) (by simp))
              obtain ⟨q0, q1, -⟩ := row2 (hk (W2.heap.size, .cells #[.int .i64 0, .int .i64 0] 43) (by simp))
              exact ⟨a0, a1, a2, b0, b1, b2, p0, p1, q0, q1⟩))
            have HEq2 := Lib.hid (fun (V : World) (hV : Below W3.heap.size W3 V) => HEq.out A1 c1 V ((K3.out.below hV).rd (A1, X) (by simp)) ((K3.out.below hV).rd (some ⟨wz.heap.size + 1 + 1, 0, none⟩, R) (by simp)))
            have HBl := Lib.hid K3.out.bel
            clear K3 HEq
            obtain ⟨y0, y1, y2, y3, y4, y5, y6, y7, y8, y9⟩ := HK.out W3 (Below.refl _ _)
            have hone : feq .f64 fone 4607182418800017408 = true := by decide +kernel
            have hnul : feq .f64 0 0 = true := by decide +kernel
            go_wp2_with fail
            refine (HEq2.out _ (Below.refl _ _)).mono ?_
            rintro e V2 ⟨rfl, hb9⟩
            have HV2 := Lib.hid hb9
            clear hb9 y0 y1 y2 y3 y4 y5 y6 y7 y8 y9
            go_wp2_with fail
            refine (awake12_c _).mono ?_
            rintro e V3 ⟨rfl, hb10⟩
            have HV3 := Lib.hid (HV2.out.trans (hb10.mono HV2.out.size))
            clear hb10
            go_wp2
            go_ret
            exact ⟨rfl, HBl.out.trans (HV3.out.mono HBl.out.size)⟩
end Go.Proofs.Ytajdfbjjgjpicaa
