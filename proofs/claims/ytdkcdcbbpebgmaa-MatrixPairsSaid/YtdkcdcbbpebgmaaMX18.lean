/- Layer 7: matrices that are the same, equal; lists that are equal, finite. -/
import Derived.Test.YtdkcdcbbpebgmaaMX15
import Derived.Test.YtdkcdcbbpebgmaaMX14
import Derived.Test.YtdkcdcbbpebgmaaMX10
import Derived.Test.YtdkcdcbbpebgmaaHas
namespace Go.Proofs.Ytdkcdcbbpebgmaa
open Go.RowKit Fl Ieee
set_option maxRecDepth 20000
attribute [local go_sem] run_store_float run_store_complex Fl.order_self Fl.order_self' Fl.order_eq Fl.order_ne Fl.order_lt Fl.order_gt
set_option maxHeartbeats 1000000 in
theorem EqualNumbers_t (A B : Option Addr) (l m : List C) (n c c' : Nat) (w : World) (hn : l.length = n) (hm : m.length = n) (h : ∀ (k : Nat) (x y : C), l[k]? = some x → m[k]? = some y → pEqual (cnC x) (cnC y) = true) (hmax : n ≤ 4611686018427387904)
    (hA : Reads w w.heap.size A (nums l)) (hB : Reads w w.heap.size B (nums m)) :
    Calls Try.prog 90 #[.slice A n c, .slice B n c'] w (RetB true w) := by
  have HA := Lib.hid hA
  have HB := Lib.hid hB
  have HH := Lib.hid h
  have HN := Lib.hid hn
  have HM := Lib.hid hm
  clear hA hB h hn hm
  go_enter Try.func90, Try.ntmps90
  go_wp2
  go_loopw [5] (fun i wr => SameN l w i wr) (fun i _ => n - (intOf i).toNat)
  case atStart => exact ⟨0, 0, Nat.zero_le _, rfl, rfl⟩
  case round =>
    obtain ⟨k, d, hk, rfl, rfl⟩ := hrel
    have hkn : k ≤ n := by rw [← HN.out]; exact hk
    clear hk
    by_cases hlt : k < n
    · obtain ⟨x, hx⟩ := some_of_lt (l := l) (k := k) (by rw [HN.out]; exact hlt)
      obtain ⟨y, hy⟩ := some_of_lt (l := m) (k := k) (by rw [HM.out]; exact hlt)
      have e := HH.out k x y hx hy
      unfold pEqual at e
      rw [Bool.and_eq_true, feq_cn, feq_cn] at e
      have e1 := e.1
      have e2 := e.2
      have hxv : (nums l)[k]? = some (.complex .f64 x.1 x.2) := by simp [nums, hx]
      have hyv : (nums m)[k]? = some (.complex .f64 y.1 y.2) := by simp [nums, hy]
      obtain ⟨ad, rfl, _, hc1⟩ := HA.out.at_ hxv
      obtain ⟨bd, rfl, _, hc2⟩ := HB.out.at_ hyv
      clear hx hy hxv hyv e
      go_wp2
      go_quiet (fail)
      go_wp2
      go_roundw
      case rel => exact ⟨k + 1, _, by rw [HN.out]; omega, by go_num, rfl⟩
      case measure => simp [intOf]; omega
    · go_wp2
      go_ret
      exact closeB rfl
theorem kFinite_c (x : Nat) (hx : x < 18446744073709551616) (w : World) :
    Calls Try.prog 102 #[.float .f64 x] w (RetB (isFin double x) w) := by
  go_enter Try.func102, Try.ntmps102
  go_wp2_with fail
  refine upon_sub _ _ _ _ ?_
  intro r1 n1 h1
  have f1 := fin_of_sub hx h1
  cases hd : isFin double x
  · rw [hd] at f1
    go_wp2
    go_ret; exact closeB hd.symm
  · rw [hd] at f1
    go_wp2
    go_ret; exact closeB hd.symm
def finC (z : C) : Bool := isFin double z.1 && isFin double z.2
def FinR (l : List C) (w : World) (i : Value) (wr : World) : Prop := ∃ k m : Nat, k ≤ l.length ∧ i = .int .i64 (k : Nat) ∧ (∀ j z, j < k → l[j]? = some z → finC z = true) ∧ wr = w.drewN m
set_option maxHeartbeats 1000000 in
theorem FiniteNumbers_c (A : Option Addr) (l : List C) (c : Nat) (w : World) (hlt : ltCs l) (hmax : l.length ≤ 4611686018427387904) (hA : Reads w w.heap.size A (nums l)) :
    Calls Try.prog 92 #[.slice A l.length c] w (RetB (l.all finC) w) := by
  have HA := Lib.hid hA
  have HLt := Lib.hid hlt
  clear hA hlt
  go_enter Try.func92, Try.ntmps92
  go_wp2
  go_loopw [3] (fun i wr => FinR l w i wr) (fun i _ => l.length - (intOf i).toNat)
  case atStart => exact ⟨0, 0, Nat.zero_le _, rfl, fun j z hj => absurd hj (Nat.not_lt_zero _), rfl⟩
  case round =>
    obtain ⟨k, d, hk, rfl, hall, rfl⟩ := hrel
    have HAll := Lib.hid hall
    clear hall
    by_cases hlt : k < l.length
    · obtain ⟨x, hx⟩ := some_of_lt (l := l) (k := k) hlt
      have hxv : (nums l)[k]? = some (.complex .f64 x.1 x.2) := by simp [nums, hx]
      obtain ⟨ad, rfl, _, hc1⟩ := HA.out.at_ hxv
      have hz := HLt.out x (List.mem_of_getElem? hx)
      have HX := Lib.hid hx
      have K1 := Lib.hid (kFinite_c x.1 hz.1)
      have K2 := Lib.hid (kFinite_c x.2 hz.2)
      have hfc : ∀ b, (isFin double x.1 && isFin double x.2) = b → finC x = b := fun b h => h
      have HF := Lib.hid hfc
      have hbad : finC x = false → l.all finC = false := fun h => by
        rw [Bool.eq_false_iff]; intro h1
        have := List.all_eq_true.1 h1 x (List.mem_of_getElem? HX.out)
        rw [h] at this; cases this
      have HBad := Lib.hid hbad
      clear hx hxv hz hfc hbad
      go_wp2_with fail
      refine (K1.out _).mono ?_
      rintro e w' ⟨n1, rfl, rfl⟩
      cases h1 : isFin double x.1
      · go_wp2
        go_ret
        exact ⟨_, ret_bool (HBad.out (HF.out _ (by rw [h1]; rfl))).symm, rfl⟩
      · go_wp2_with fail
        refine (K2.out _).mono ?_
        rintro e w' ⟨n2, rfl, rfl⟩
        cases h2 : isFin double x.2
        · go_wp2
          go_ret
          exact ⟨_, ret_bool (HBad.out (HF.out _ (by rw [h1, h2]; rfl))).symm, rfl⟩
        · have HG := Lib.hid (HF.out _ (show (isFin double x.1 && isFin double x.2) = true by rw [h1, h2]; rfl))
          go_wp2
          go_roundw
          case rel =>
            refine ⟨k + 1, _, hlt, by go_num, fun j z hj hz => ?_, rfl⟩
            rcases Nat.lt_or_ge j k with h | h
            · exact HAll.out j z h hz
            · have : j = k := by omega
              subst this
              rw [HX.out] at hz
              injection hz with hz; subst hz; exact HG.out
          case measure => simp [intOf]; omega
    · have e : k = l.length := by omega
      subst e
      have ht : l.all finC = true := by
        rw [List.all_eq_true]; intro z hz
        obtain ⟨j, hj⟩ := List.getElem?_of_mem hz
        exact HAll.out j z (lt_of_some hj) hj
      go_wp2
      go_ret
      exact ⟨_, ret_bool ht.symm, rfl⟩
theorem same_enters (args : Array Value) (W : World) : (callFunc 89 args).run Try.prog W = .ok (.enter 89 args) W :=
  enters_of Try.func89 (by kernel_rfl) rfl args W
theorem MEqual_of (ra ca rb cb : Int) (A B : Option Addr) (na nb capa capb : Nat) (b : Bool) (w : World)
    (hB : ∀ V, Below w.heap.size w V → Calls Try.prog 87 #[mval ra ca (.slice A na capa), mval rb cb (.slice B nb capb), .func (.func 89) #[] #[]] V (RetBB b V)) :
    Calls Try.prog 44 #[mval ra ca (.slice A na capa), mval rb cb (.slice B nb capb)] w (RetBB b w) := by
  have HC := Lib.hid hB
  clear hB
  have hb0 : Below w.heap.size w ((w.alloc (.cells #[.int .i64 ra, .int .i64 ca, .slice A na capa] 28)).alloc (.cells #[.int .i64 rb, .int .i64 cb, .slice B nb capb] 28)) :=
    ((Below.refl _ w).new (Nat.le_refl _) _).new (Nat.le_refl _) _
  have HB0 := Lib.hid hb0
  clear hb0
  go_enter Try.func44, Try.ntmps44
  go_wp2_with fail
  refine (HC.out _ HB0.out).mono ?_
  rintro e W1 ⟨rfl, hb⟩
  have HB := Lib.hid (HB0.out.trans (hb.mono HB0.out.size))
  clear hb
  go_wp2
  go_ret
  exact ⟨rfl, HB.out⟩
theorem MEqual_c (r c : Int) (A B : Option Addr) (la lb : List C) (capa capb : Nat) (w : World) (hoa : okM r c la.length = true) (hob : okM r c lb.length = true)
    (hA : Reads w w.heap.size A (nums la)) (hB : Reads w w.heap.size B (nums lb)) :
    Calls Try.prog 44 #[mval r c (.slice A la.length capa), mval r c (.slice B lb.length capb)] w (RetBB (allLike pEqual la lb) w) :=
  MEqual_of r c r c A B la.length lb.length capa capb _ w fun V hV =>
    held_c 89 pEqual same_enters (fun p q V => Equal_c p.1 p.2 q.1 q.2 V) r c A B la lb capa capb V hoa hob ((hA.below hV).more hV.size) ((hB.below hV).more hV.size)
end Go.Proofs.Ytdkcdcbbpebgmaa
namespace Go.Proofs.Ytdkcdcbbpebgmaa
open Go.RowKit Fl Ieee
set_option maxRecDepth 20000
attribute [local go_sem] run_store_float run_store_complex
theorem allLike_map {lk : C → C → Bool} {la zs m : List C} (h : zs.map cnC = m) : allLike lk la zs = allLike lk la m := by
  subst h
  unfold allLike
  congr 1
  funext k
  have h : cnC (zs.getD k (0, 0)) = cnC ((zs.map cnC).getD k (0, 0)) := by
    simp only [List.getD_eq_getElem?_getD, List.getElem?_map]
    cases zs[k]? with
    | none => rfl
    | some z => exact (cnC_cnC z).symm
  rw [h]
theorem Identity_bad (n : Int) (w : World) (h : decide (n < 0) = true ∨ (decide (n < 0) = false ∧ decide (64 < n) = true)) :
    Calls Try.prog 17 #[.int .i64 n] w (RetMxE 0 0 [] 2 w) := by
  have hrow : (w.alloc (.cells #[.int .i64 0, .int .i64 0, .slice none 0 0] 28)).heap[w.heap.size]? = some (.cells #[.int .i64 0, .int .i64 0, .slice none 0 0] 28) := heap_alloc_new w _
  obtain ⟨r0, r1, r2, fr⟩ := box3 hrow
  have f0 := fr 0
  have f1 := fr 1
  have f2 := fr 2
  clear hrow fr
  simp only [decide_eq_true_eq, decide_eq_false_iff_not] at h
  rcases h with h | ⟨h1, h⟩
  all_goals
    go_enter Try.func17, Try.ntmps17
    go_wp2
    refine bodyPost_ret (v := .tuple #[mval 0 0 (.slice none 0 0), .int .i64 2]) (by simp [results, Try.results17, go_sem]) rfl ?_
    exact ⟨.slice none 0 0, [], rfl, rfl, by simp [ltCs], World.ownsRow_nil _ _ _ _, below_new _ _⟩
set_option maxHeartbeats 1000000 in
theorem Symmetric_of (rows cols : Nat) (A : Option Addr) (l : List C) (cap : Nat) (b : Bool) (w : World) (hr : rows ≤ 64) (hc : cols ≤ 64) (hl : l.length = rows * cols) (hrd : Reads w w.heap.size A (nums l)) (hlt : ltCs l)
    (hE : ∀ (V : World) (B : Option Addr) (zt : List C) (c : Nat), Reads V V.heap.size A (nums l) → Reads V V.heap.size B (nums zt) → zt.map cnC = entries rows (fun i j => ent l cols j i) (cols * rows) →
      Calls Try.prog 44 #[mval rows cols (.slice A l.length cap), mval cols rows (.slice B zt.length c)] V (RetBB b V)) :
    Calls Try.prog 48 #[mval rows cols (.slice A l.length cap)] w (RetBB b w) := by
  have hb0 : Below w.heap.size w (w.alloc (.cells #[.int .i64 rows, .int .i64 cols, .slice A l.length cap] 28)) := below_new w _
  have HT := Lib.hid (Transpose_c rows cols A l cap _ hr hc hl ((hrd.below hb0).more hb0.size) hlt)
  have HRd := Lib.hid ((hrd.below hb0).more hb0.size)
  have HB := Lib.hid hb0
  have HE := Lib.hid hE
  clear hrd hlt hl hb0 hE
  go_enter Try.func48, Try.ntmps48
  go_wp2_with fail
  refine HT.out.mono ?_
  rintro e W1 ⟨s, zt, rfl, hz, hlz, hown, hb⟩
  have hel : (entries rows (fun i j => ent l cols j i) (cols * rows)).length = zt.length := by rw [← hz, List.length_map]
  rw [hel] at hown
  obtain ⟨sA, sn, sc, rfl, -⟩ := slice_of_own hown
  obtain ⟨e1, -, -⟩ := own_slice hown
  subst e1
  obtain ⟨hbx, hq, hl⟩ := frame0 hb
  obtain ⟨d0, d1, d2⟩ := hbx.below (below_new W1 (.cells #[.int .i64 cols, .int .i64 rows, .slice sA zt.length sc] 28)) hl
  obtain ⟨b0, b1, b2⟩ := hbx
  have hn := below_new W1 (.cells #[.int .i64 cols, .int .i64 rows, .slice sA zt.length sc] 28)
  have HE1 := Lib.hid (HE.out (W1.alloc (.cells #[.int .i64 cols, .int .i64 rows, .slice sA zt.length sc] 28)) sA zt sc (((HRd.out.below hb).below (hn.mono (by have := hb.size; omega))).more (Nat.le_trans hb.size hn.size)) (((Reads.of_own hown).below hn).more hn.size) hz)
  have HB1 := Lib.hid (hq.trans (hn.mono (Nat.le_of_lt hl)))
  clear hz hlz hown hb hel hq hl hn
  go_wp2_with fail
  refine HE1.out.mono ?_
  rintro e W2 ⟨rfl, hb2⟩
  have HB2 := Lib.hid (HB1.out.trans (hb2.mono HB1.out.size))
  clear hb2
  go_wp2
  go_ret
  exact ⟨rfl, HB2.out⟩
theorem Symmetric_sq (n : Nat) (A : Option Addr) (l : List C) (cap : Nat) (w : World) (hn : n ≤ 64) (hl : l.length = n * n) (hrd : Reads w w.heap.size A (nums l)) (hlt : ltCs l) :
    Calls Try.prog 48 #[mval n n (.slice A l.length cap)] w (RetBB (allLike pEqual l (entries n (fun i j => ent l n j i) (n * n))) w) :=
  Symmetric_of n n A l cap _ w hn hn hl hrd hlt fun V B zt c hA hB hz => by
    have ho : okM n n l.length = true := okM_iff.2 ⟨by omega, by omega, by omega, by omega, by rw [hl, Int.natCast_mul]⟩
    have ho' : okM n n zt.length = true := okM_iff.2 ⟨by omega, by omega, by omega, by omega, by rw [len_made hz, Int.natCast_mul]⟩
    have h := MEqual_c n n A B l zt cap c V ho ho' hA hB
    rw [allLike_map hz] at h; exact h
theorem Symmetric_ns (rows cols : Nat) (A : Option Addr) (l : List C) (cap : Nat) (w : World) (hr : rows ≤ 64) (hc : cols ≤ 64) (hne : rows ≠ cols) (hl : l.length = rows * cols) (hrd : Reads w w.heap.size A (nums l)) (hlt : ltCs l) :
    Calls Try.prog 48 #[mval rows cols (.slice A l.length cap)] w (RetBB false w) :=
  Symmetric_of rows cols A l cap _ w hr hc hl hrd hlt fun V B zt c _ _ _ => by
    have ho : okM rows cols l.length = true := okM_iff.2 ⟨by omega, by omega, by omega, by omega, by rw [hl, Int.natCast_mul]⟩
    exact MEqual_of rows cols cols rows A B l.length zt.length cap c false V fun V' _ => held_second _ rows cols cols rows A B _ _ cap c V' ho (Or.inr (Or.inl (by simp; omega)))
end Go.Proofs.Ytdkcdcbbpebgmaa
namespace Go.Proofs.Ytdkcdcbbpebgmaa
open Go.RowKit Fl Ieee
set_option maxRecDepth 20000
theorem bb_of_b {P : Program} {f : FuncId} {args : Array Value} {W : World} {b : Bool} (h : Calls P f args W (RetB b W)) : Calls P f args W (RetBB b W) :=
  h.mono fun _ _ ⟨n, he, hw⟩ => ⟨he, by rw [hw]; exact below_drewN (Below.refl _ W) n⟩
theorem frame3b {w W1 : World} {r c r' c' r'' c'' : Int} {s s' s'' : Value} {t t' t'' : TypeId}
    (hb : Below (((w.alloc (.cells #[.int .i64 r, .int .i64 c, s] t)).alloc (.cells #[.int .i64 r', .int .i64 c', s'] t')).alloc (.cells #[.int .i64 r'', .int .i64 c'', s''] t'')).heap.size
      (((w.alloc (.cells #[.int .i64 r, .int .i64 c, s] t)).alloc (.cells #[.int .i64 r', .int .i64 c', s'] t')).alloc (.cells #[.int .i64 r'', .int .i64 c'', s''] t'')) W1) :
    Box W1 w.heap.size r c s ∧ Box W1 (w.heap.size + 1) r' c' s' ∧ Box W1 (w.heap.size + 2) r'' c'' s'' ∧ Below w.heap.size w W1 ∧ w.heap.size + 3 ≤ W1.heap.size := by
  obtain ⟨w1, hw1⟩ : ∃ w1, w1 = w.alloc (.cells #[.int .i64 r, .int .i64 c, s] t) := ⟨_, rfl⟩
  have e1 : w1.heap.size = w.heap.size + 1 := by rw [hw1]; simp
  rw [← hw1] at hb
  obtain ⟨h1, h2, h3, h4⟩ := frame2b hb
  rw [e1] at h1 h2 h4
  rw [hw1] at h3
  obtain ⟨h5, h6, h7⟩ := frame0 h3
  exact ⟨h5, h1, h2, h6, h4⟩
theorem both_bad_of {ra ca rb cb : Int} {na nb : Nat} (h : (okM ra ca na && okM rb cb nb && (ra == rb) && (ca == cb)) = false) : okM ra ca na = false ∨ (okM ra ca na = true ∧ (okM rb cb nb = false ∨ (ra == rb) = false ∨ ((ra == rb) = true ∧ (ca == cb) = false))) := by
  cases h1 : okM ra ca na
  · exact .inl rfl
  · cases h2 : okM rb cb nb
    · exact .inr ⟨rfl, .inl rfl⟩
    · cases h3 : (ra == rb)
      · exact .inr ⟨rfl, .inr (.inl rfl)⟩
      · rw [h1, h2, h3] at h
        exact .inr ⟨rfl, .inr (.inr ⟨rfl, by simpa using h⟩)⟩
theorem SameMatrix_u (r c : Int) (A B : Option Addr) (l m : List C) (ca cb : Nat) (w : World) (h : l.map cnC = m.map cnC) (hmax : l.length ≤ 4096) (hA : Reads w w.heap.size A (nums l)) (hB : Reads w w.heap.size B (nums m)) :
    Calls Try.prog 24 #[mval r c (.slice A l.length ca), mval r c (.slice B m.length cb)] w (RetBB true w) := by
  have e : m.length = l.length := by have := congrArg List.length h; simpa using this.symm
  rw [e]
  exact SameMatrix_t r c A B l m l.length ca cb w rfl e h (by omega) hA hB
theorem MAdd_c (rows cols : Nat) (A B : Option Addr) (la lb : List C) (capa capb : Nat) (w : World) (hr : rows ≤ 64) (hc : cols ≤ 64) (hla : la.length = rows * cols) (hlb : lb.length = rows * cols)
    (hA : Reads w w.heap.size A (nums la)) (hB : Reads w w.heap.size B (nums lb)) :
    Calls Try.prog 29 #[mval rows cols (.slice A la.length capa), mval rows cols (.slice B lb.length capb)] w (RetMxE rows cols (entries cols (fun i j => pAdd (ent la cols i j) (ent lb cols i j)) (rows * cols)) 0 w) :=
  MAdd_of _ _ _ _ _ _ A B _ _ capa capb _ 0 w fun V hV => both_c 54 pAdd pAdd_enters (fun p q V => Add_c p.1 p.2 q.1 q.2 V) rows cols A B la lb capa capb V hr hc hla hlb ((hA.below hV).more hV.size) ((hB.below hV).more hV.size)
theorem MAdd_bad (ra ca rb cb : Int) (A B : Option Addr) (na nb capa capb : Nat) (w : World) (h : (okM ra ca na && okM rb cb nb && (ra == rb) && (ca == cb)) = false) :
    Calls Try.prog 29 #[mval ra ca (.slice A na capa), mval rb cb (.slice B nb capb)] w (RetMxE 0 0 [] 4 w) :=
  MAdd_of _ _ _ _ _ _ A B _ _ capa capb _ 4 w fun V _ => by
    rcases both_bad_of h with h | ⟨h, h'⟩
    · exact both_first _ ra ca rb cb A B na nb capa capb V h
    · exact both_second _ ra ca rb cb A B na nb capa capb V h h'
theorem MSub_c (rows cols : Nat) (A B : Option Addr) (la lb : List C) (capa capb : Nat) (w : World) (hr : rows ≤ 64) (hc : cols ≤ 64) (hla : la.length = rows * cols) (hlb : lb.length = rows * cols)
    (hA : Reads w w.heap.size A (nums la)) (hB : Reads w w.heap.size B (nums lb)) :
    Calls Try.prog 30 #[mval rows cols (.slice A la.length capa), mval rows cols (.slice B lb.length capb)] w (RetMxE rows cols (entries cols (fun i j => pSub (ent la cols i j) (ent lb cols i j)) (rows * cols)) 0 w) :=
  MSub_of _ _ _ _ _ _ A B _ _ capa capb _ 0 w fun V hV => both_c 79 pSub pSub_enters (fun p q V => Sub_c p.1 p.2 q.1 q.2 V) rows cols A B la lb capa capb V hr hc hla hlb ((hA.below hV).more hV.size) ((hB.below hV).more hV.size)
theorem okN {r c : Nat} {l : List C} (hr : r ≤ 64) (hc : c ≤ 64) (hl : l.length = r * c) : okM r c l.length = true := okM_iff.2 ⟨by omega, by omega, by omega, by omega, by rw [hl, Int.natCast_mul]⟩
end Go.Proofs.Ytdkcdcbbpebgmaa
