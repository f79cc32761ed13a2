/- LowerWhole's walk. -/
import Derived.Test.YtibjkmjccelcaaaWhF
import Derived.Test.YtibjkmjccelcaaaSV0
import Derived.Test.YtibjkmjccelcaaaWhX
namespace Go.Proofs.Ytibjkmjccelcaaa
open Go.RowKit Fl Ieee
set_option maxRecDepth 20000
attribute [local go_sem] run_store_float run_store_complex Fl.order_self Fl.order_self' Fl.order_eq Fl.order_ne
/-- What is kept while the world grows: rows, lists that read. -/
structure Kp (w W : World) (rows : List (Nat × Obj)) (rds : List (Option Addr × List C)) : Prop where
  bel : Below w.heap.size w W
  row : ∀ p ∈ rows, W.heap[p.1]? = some p.2
  rd : ∀ p ∈ rds, Reads W W.heap.size p.1 (nums p.2)
namespace Kp
variable {w W V : World} {rows : List (Nat × Obj)} {rds : List (Option Addr × List C)}
theorem below (h : Kp w W rows rds) (hb : Below W.heap.size W V) : Kp w V rows rds :=
  ⟨h.bel.trans (hb.mono h.bel.size), fun p hp => row_keep hb (h.row p hp), fun p hp => ((h.rd p hp).below hb).more hb.size⟩
theorem add (h : Kp w W rows rds) {b : Nat} {o : Obj} (hr : W.heap[b]? = some o) : Kp w W ((b, o) :: rows) rds :=
  ⟨h.bel, fun p hp => by
    rcases List.mem_cons.1 hp with rfl | h1
    · exact hr
    · exact h.row p h1, h.rd⟩
theorem addR (h : Kp w W rows rds) {A : Option Addr} {l : List C} (hr : Reads W W.heap.size A (nums l)) : Kp w W rows ((A, l) :: rds) :=
  ⟨h.bel, h.row, fun p hp => by
    rcases List.mem_cons.1 hp with rfl | h1
    · exact hr
    · exact h.rd p h1⟩
theorem new (h : Kp w W rows rds) (o : Obj) : Kp w (W.alloc o) ((W.heap.size, o) :: rows) rds := (h.below (below_new W o)).add (heap_alloc_new W o)
theorem new2 (h : Kp w W rows rds) (o o' : Obj) : Kp w ((W.alloc o).alloc o') ((W.heap.size + 1, o') :: (W.heap.size, o) :: rows) rds :=
  ((h.new o).below (below_new _ o')).add (row_new2 W o o')
end Kp
/-- A matrix in a box that grows number by number. -/
structure Gn (w0 W : World) (B b N : Nat) (zs : List C) (s : Value) : Prop where
  bel : Below w0.heap.size w0 W
  l : w0.heap.size ≤ b
  u : b < B
  sz : B ≤ W.heap.size
  x : W.heap[b]? = some (.cells #[.int .i64 (N : Nat), .int .i64 (N : Nat), s] 26)
  o : W.ownsRow B 51 1 s zs.length (nums zs)
namespace Gn
variable {w0 W V : World} {B b N : Nat} {zs : List C} {s : Value}
theorem below (h : Gn w0 W B b N zs s) (hb : Below W.heap.size W V) : Gn w0 V B b N zs s :=
  { h with
    bel := h.bel.trans (hb.mono h.bel.size)
    sz := Nat.le_trans h.sz hb.size
    x := row_keep hb h.x
    o := own_below h.o hb }
theorem app {z : C} {n : Nat} {o : Obj} {v' : Value} {w1 : World} (h : Gn w0 W B b N zs s) (hn : zs.length = n)
    (hown : w1.ownsRow B 51 1 v' (n + 1) (nums zs ++ [.complex .f64 z.1 z.2]))
    (hgr : (W.alloc o).grownBy w1 s.ownBlock) :
    w1.cell? ⟨b, 2, none⟩ = some s ∧ w1.frozen? ⟨b, 2, none⟩ = false ∧ Gn w0 (w1.setCell ⟨b, 2, none⟩ v') B b N (zs ++ [z]) v' := by
  have hs : (W.alloc o).heap.size = W.heap.size + 1 := by simp
  have hz := h.sz
  have k1 := h.u
  have n1 : s.ownBlock ≠ some b := fun e => by have := (h.o.lt _ e).1; omega
  have hx := ((hgr.block b (by omega) (fun e => n1 e.symm)).trans (Below.heap_alloc W o b (by omega))).trans h.x
  obtain ⟨-, -, c1, f1⟩ := box3 hx
  refine ⟨c1, f1 2, ?_⟩
  have hsz1 : (w1.setCell ⟨b, 2, none⟩ v').heap.size = w1.heap.size := by simp [World.setCell]
  refine { bel := ?_, l := h.l, u := h.u, sz := ?_, x := ?_, o := ?_ }
  · exact ((h.bel.new (Nat.le_refl _) o).grown hgr (by have := h.bel.size; omega) (fun j hj => by have := (h.o.lt j hj).1; have := h.l; omega)).setCell h.l _
  · rw [hsz1]; have := hgr.size; omega
  · rw [heap_setCell_same _ b 2 _ _ _ hx]; rfl
  · rw [List.length_append, hn]
    have e : nums (zs ++ [z]) = nums zs ++ [.complex .f64 z.1 z.2] := by simp [nums]
    rw [e]
    exact ownsRow_setCell_below hown (by show b < B; omega) _
theorem szo (h : Gn w0 W B b N zs s) (o : Obj) : B ≤ (W.alloc o).heap.size := Nat.le_trans h.sz (by simp)
end Gn
def zW (li : List Int) (q : Nat) : C := if 2 * q + 1 < li.length then (FloatKind.f64.nearest ((li.getD (2 * q) 0).tmod 8), FloatKind.f64.nearest ((li.getD (2 * q + 1) 0).tmod 8)) else (0, 0)
def lW (li : List Int) (M : Nat) : List C := (List.range M).map (zW li)
theorem lW_succ (li : List Int) (q : Nat) : lW li (q + 1) = lW li q ++ [zW li q] := by unfold lW; rw [List.range_succ, List.map_append]; rfl
theorem zW_cx (li : List Int) (q : Nat) : ∃ a b : Int, Cx (zW li q) a b ∧ a.natAbs < 1048576 ∧ b.natAbs < 1048576 := by
  have key : ∀ x : Int, (x.tmod 8).natAbs < 1048576 := fun x => by
    have h1 := Int.tmod_lt_of_pos x (show (0 : Int) < 8 by omega)
    have h2 := Int.tmod_lt_of_pos (-x) (show (0 : Int) < 8 by omega)
    rw [Int.neg_tmod] at h2
    omega
  unfold zW
  split
  · exact ⟨_, _, ⟨ex_nearest (by have := key (li.getD (2 * q) 0); omega), ex_nearest (by have := key (li.getD (2 * q + 1) 0); omega)⟩, key _, key _⟩
  · exact ⟨0, 0, ⟨ex_zero (by decide) (by decide), ex_zero (by decide) (by decide)⟩, by decide, by decide⟩
theorem RetMx.liesW {w w' : World} {r c M : Nat} {l : List C} {e : Ending} (h : RetMx r c l w e w') (hM : l.length = M) (hf : ∀ z ∈ l, pFinite z = true) : ∃ A cap, e = .returned (mval r c (.slice A M cap)) ∧ ltCs l ∧ Reads w' w'.heap.size A (nums l) ∧ Below w.heap.size w w' := by
  obtain ⟨s, zs, rfl, hz, hlz, hown, hb⟩ := h
  have e1 := exact_of hz hf
  rw [e1] at hown hlz
  obtain ⟨A, cap, rfl, hrd, -, -⟩ := own_reads hown
  exact ⟨A, cap, by rw [hM], hlz, hrd, hb⟩
theorem RetL.liesW {l : List C} {w w' : World} {e : Ending} {M : Nat} (h : RetL l w e w') (hM : l.length = M) : ∃ A cap, e = .returned (.slice A M cap) ∧ Reads w' w'.heap.size A (nums l) ∧ M ≤ cap ∧ Below w.heap.size w w' := by
  obtain ⟨s, rfl, hown, hb⟩ := h
  rw [hM] at hown
  obtain ⟨A, c, rfl, hrd, hle, -⟩ := own_reads hown
  exact ⟨A, c, rfl, hrd, hle, hb⟩
theorem pivL_fin {S : El} {n : Nat} (h : finTo S.E n) : ∀ z ∈ pivL S n, pFinite z = true := fun z hz => by
  unfold pivL at hz
  obtain ⟨i, hi, rfl⟩ := List.mem_map.1 hz
  exact h i i (List.mem_range.1 hi) (List.mem_range.1 hi)
/-- What stands while the sums are taken. -/
structure Ww (w W : World) (mb lb ub N M : Nat) (A0 Al Au Ao : Option Addr) (c0 cl cu : Nat) (L El Eu : List C) (Il : List Int) : Prop where
  bel : Below w.heap.size w W
  m : W.heap[mb]? = some (.cells #[.int .i64 (N : Nat), .int .i64 (N : Nat), .slice A0 M c0] 26)
  l : W.heap[lb]? = some (.cells #[.int .i64 (N : Nat), .int .i64 (N : Nat), .slice Al M cl] 26)
  u : W.heap[ub]? = some (.cells #[.int .i64 (N : Nat), .int .i64 (N : Nat), .slice Au M cu] 26)
  rm : Reads W W.heap.size A0 (nums L)
  rl : Reads W W.heap.size Al (nums El)
  ru : Reads W W.heap.size Au (nums Eu)
  ro : Reads W W.heap.size Ao (intsV Il)
theorem Ww.below {w W V : World} {mb lb ub N M : Nat} {A0 Al Au Ao : Option Addr} {c0 cl cu : Nat} {L El Eu : List C} {Il : List Int} (h : Ww w W mb lb ub N M A0 Al Au Ao c0 cl cu L El Eu Il) (hb : Below W.heap.size W V) : Ww w V mb lb ub N M A0 Al Au Ao c0 cl cu L El Eu Il :=
  ⟨h.bel.trans (hb.mono h.bel.size), row_keep hb h.m, row_keep hb h.l, row_keep hb h.u, (h.rm.below hb).more hb.size, (h.rl.below hb).more hb.size, (h.ru.below hb).more hb.size, (h.ro.below hb).more hb.size⟩
set_option linter.unusedSimpArgs false in
set_option maxHeartbeats 4000000 in
theorem Whole9 (n : Int) (A : Option Addr) (li : List Int) (cap : Nat) (w : World) (hr : Reads w w.heap.size A (zints li)) (hcap : li.length ≤ maxLen) :
    Calls Try.prog 7 #[.int .i64 n, .slice A li.length cap] w fun e w' => e = .returned (.bool true) ∧ Below w.heap.size w w' := by
  obtain ⟨i0, hi, hz0, hz1, hz2⟩ := info_parts infoNum
  unfold maxLen at hcap
  obtain ⟨N, hN⟩ : ∃ N : Nat, (N : Int) = n % 13 := ⟨(n % 13).toNat, by omega⟩
  have hN12 : N ≤ 12 := by omega
  have hP := Lib.hid (fun W => Pick_c n 13 (by omega) (by omega) W)
  rw [← hN] at hP
  obtain ⟨M, hM⟩ : ∃ M, M = N * N := ⟨_, rfl⟩
  have hM144 : M ≤ 144 := by rw [hM]; exact Nat.mul_le_mul hN12 hN12
  have hm : wrap64 ((N : Int) * (N : Int)) = (M : Int) := by rw [hM, ← Int.natCast_mul, ← hM]; unfold wrap64; omega
  have HR := Lib.hid hr
  have HM := Lib.hid hM
  have hG0 : Gn w (w.alloc (.cells #[.int .i64 (N : Nat), .int .i64 (N : Nat), .slice none 0 0] 26)) (w.heap.size + 1) w.heap.size N [] (.slice none 0 0) :=
    { bel := below_new _ _
      l := Nat.le_refl _
      u := by omega
      sz := by simp
      x := heap_alloc_new _ _
      o := World.ownsRow_nil _ _ _ _ }
  have HG0 := Lib.hid hG0
  clear hr hN hM hG0
  go_enter Try.func7, Try.ntmps7
  go_wp2_with fail
  refine (hP.out _).mono ?_
  rintro e w1 ⟨rfl, rfl⟩
  go_wp2
  go_loopw [6, 7] (fun i _ wr => ∃ (q : Nat) (s : Value), q ≤ M ∧ i = .int .i64 (q : Nat) ∧ Gn w wr (w.heap.size + 1) w.heap.size N (lW li q) s) (fun i _ _ => M - (intOf i).toNat)
  case atStart => exact ⟨0, _, Nat.zero_le _, rfl, HG0.out⟩
  case round =>
    obtain ⟨q, s, hq, rfl, hg⟩ := hrel
    have HG := Lib.hid hg
    obtain ⟨-, -, c1, -⟩ := box3 hg.x
    have hqb : (q : Int) + 1 ≤ 145 := by omega
    clear hg
    by_cases hlt : q < M
    · have hlti : (q : Int) < (M : Int) := Int.ofNat_lt.2 hlt
      obtain ⟨e2, he2⟩ : ∃ e2 : Nat, 2 * (q : Int) = (e2 : Int) := ⟨2 * q, by omega⟩
      obtain ⟨e3, he3⟩ : ∃ e3 : Nat, (e2 : Int) + 1 = (e3 : Int) := ⟨e2 + 1, by omega⟩
      have HE2 := Lib.hid (show e2 = 2 * q by omega)
      have HE3 := Lib.hid (show e3 = 2 * q + 1 by omega)
      have he4 : e3 ≤ 300 := by omega
      obtain ⟨bb, hbb⟩ : ∃ bb, decide (e3 < li.length) = bb := ⟨_, rfl⟩
      have HBB := Lib.hid hbb
      obtain ⟨z, hzq⟩ : ∃ z, z = zW li q := ⟨_, rfl⟩
      have HZ := Lib.hid hzq
      clear hzq
      go_upto_if 37 with fail
      clear hbb
      go_cut [7] (fun s wx => s = .complex .f64 z.1 z.2 ∧ ∃ d, wx = wr.drewN d)
      case first =>
        cases bb
        · have hl2 : ¬ e3 < li.length := of_decide_eq_false HBB.out
          have hk0 : z = (0, 0) := by rw [HZ.out]; unfold zW; rw [if_neg (by rw [← HE3.out]; exact hl2)]
          subst hk0
          clear hl2
          go_wp2
          go_meet
          case rel => exact ⟨rfl, 0, rfl⟩
        · have hl2 : e3 < li.length := of_decide_eq_true HBB.out
          have hl1 : e2 < li.length := by omega
          have hl2i : (e3 : Int) < (li.length : Int) := Int.ofNat_lt.2 hl2
          have hl1i : (e2 : Int) < (li.length : Int) := Int.ofNat_lt.2 hl1
          obtain ⟨x, hx⟩ : ∃ x, x = li.getD e2 0 := ⟨_, rfl⟩
          obtain ⟨y, hy⟩ : ∃ y, y = li.getD e3 0 := ⟨_, rfl⟩
          have hxz : (zints li)[e2]? = some (.int .i64 x) := by rw [hx]; unfold zints; rw [List.getElem?_map, List.getD_eq_getElem?_getD, List.getElem?_eq_getElem hl1]; rfl
          have hyz : (zints li)[e3]? = some (.int .i64 y) := by rw [hy]; unfold zints; rw [List.getElem?_map, List.getD_eq_getElem?_getD, List.getElem?_eq_getElem hl2]; rfl
          obtain ⟨ad, rfl, hab, hc1⟩ := (HR.out.below HG.out.bel).at_ hxz
          obtain ⟨ad2, ea, -, hc2⟩ := (HR.out.below HG.out.bel).at_ hyz
          have e5 : ad = ad2 := by simpa using ea
          subst e5
          have d1 : ∀ D, (wr.drewN D).cell? (ad.add e2) = some (.int .i64 x) := fun _ => hc1
          have d2 : ∀ D, (wr.drewN D).cell? (ad.add e3) = some (.int .i64 y) := fun _ => hc2
          have HZx := Lib.hid (show z = (FloatKind.f64.nearest (x.tmod 8), FloatKind.f64.nearest (y.tmod 8)) by rw [HZ.out, hx, hy, HE2.out, HE3.out]; unfold zW; rw [if_pos (by rw [← HE3.out]; exact hl2)])
          have hd0 : decide ((e2 : Int) < 0) = false := by simp
          have hd1 : decide ((e3 : Int) < 0) = false := by simp
          clear hxz hyz hab hx hy hc1 hc2 ea
          go_wp2
          go_quiet (fail)
          go_wp2
          go_meet
          case rel => exact ⟨by rw [HZx.out]; rfl, _, rfl⟩
      case rest =>
        obtain ⟨rfl, dd, hwc⟩ := hcut
        rename World => w2
        have HG2 := Lib.hid (show Gn w w2 (w.heap.size + 1) w.heap.size N (lW li q) s by rw [hwc]; exact HG.out.below (below_drewN (Below.refl _ _) _))
        obtain ⟨-, -, c2, -⟩ := box3 HG2.out.x
        have H63 := Lib.hid (show q + 1 ≤ maxLen by unfold maxLen; omega)
        have HBy := Lib.hid (show (q + 1) * 16 ≤ 140737488355328 by omega)
        have HLm := Lib.hid (show (lW li q).length = q by simp [lW])
        have HO1 := Lib.hid (show w2.ownsRow (w.heap.size + 1) 51 1 s q (nums (lW li q)) by have := HG2.out.o; rwa [HLm.out] at this)
        clear hwc c1 HG he4 he2 he3 HBB
        go_wp2_with (at_builtin; refine wpList_append_stays _ rfl (.tmp 55) (.tmp 57) 24 rfl (w.heap.size + 1) 51 i0 (.complex .f64 0 0) 16 Try.underlying24 hi hz0 hz1 hz2 rfl s q (nums (lW li q)) rfl (HO1.out.alloc _) ⟨w2.heap.size, 0, none⟩ 1 1 [.complex .f64 z.1 z.2] rfl rfl (cell_one_new _ _ _) (by intro u hu; simp at hu; subst hu; rfl) H63.out HBy.out (HG2.out.szo _) ?_; intro v1 w3 hown1 hgr1 hv1; obtain ⟨q1, cp1, e1, -, -⟩ := hown1.form (Nat.succ_pos q); subst e1; obtain ⟨d1, f1, hG3⟩ := HG2.out.app HLm.out hown1 hgr1; have HG3 := Lib.hid hG3; clear hown1 hgr1 hv1 hG3 c2)
        go_wp2
        go_roundw
        case rel =>
          refine ⟨q + 1, .slice (some ⟨q1, 0, none⟩) (q + 1) cp1, hlt, by go_num, ?_⟩
          rw [lW_succ, ← HZ.out]
          exact HG3.out
        case measure => simp [intOf]; omega
    · have e : M = q := by omega
      subst e
      obtain ⟨L, hL⟩ : ∃ L, L = lW li M := ⟨_, rfl⟩
      have hLl : L.length = M := by rw [hL]; simp [lW]
      have hgx := HG.out.x
      have hgo := HG.out.o
      rw [← hL, hLl] at hgo
      obtain ⟨A0, c0, rfl, hrd, hle, -⟩ := own_reads hgo
      have hLt : ltCs L := fun z hz => by
        rw [hL] at hz
        obtain ⟨q, -, rfl⟩ := List.mem_map.1 hz
        obtain ⟨a, b, h, -, -⟩ := zW_cx li q
        exact ⟨h.1.1, h.2.1⟩
      have hLf : ∀ z ∈ L, pFinite z = true := fun z hz => by
        rw [hL] at hz
        obtain ⟨q, -, rfl⟩ := List.mem_map.1 hz
        obtain ⟨a, b, h, -, -⟩ := zW_cx li q
        exact cx_fin h
      obtain ⟨f1, f2, hf⟩ : ∃ f1 f2, ofF N N L = (f1, f2) := ⟨_, _, rfl⟩
      have hOf := Of_c N N A0 L c0 wr (by rw [hLl]; exact hle) hrd hLt
      rw [hf, hLl, Int.toNat_natCast] at hOf
      have HL := Lib.hid hL
      have HLl := Lib.hid hLl
      have HLf := Lib.hid hLf
      have HFf := Lib.hid hf
      have HK0 := Lib.hid (Kp.mk (w := w) HG.out.bel (rows := [(w.heap.size, .cells #[.int .i64 (N : Nat), .int .i64 (N : Nat), .slice A0 M c0] 26)]) (rds := [(A0, L)]) (by
        intro p hp; simp at hp; subst hp; exact hgx) (by
        intro p hp; simp at hp; subst hp; exact hrd))
      have HOf := Lib.hid hOf
      obtain ⟨bx0, bx1, bx2, -⟩ := box3 hgx
      clear hL hLl hgx hgo hrd hle hLt hLf hf hOf HG HG0 c1
      by_cases h0 : f1 = 0
      · subst h0
        have hlen : L.length = N * N := by rw [HLl.out, HM.out]
        obtain ⟨-, hf0, hrun⟩ := of_fin (show N ≤ 64 by omega) hlen (by rw [HFf.out])
        have h2 : f2 = 0 := by have h3 := HFf.out; rw [hf0] at h3; exact (Prod.mk.inj h3).2.symm
        subst h2
        obtain ⟨S, hS⟩ : ∃ S, S = ofS N L := ⟨_, rfl⟩
        have HSf := Lib.hid (show finTo S.E N by rw [hS]; unfold ofS; simp only [Int.toNat_natCast]; exact elRun_fin (matE_fin hlen HLf.out) N (Nat.le_refl _))
        have HPerm := Lib.hid (show Perm N S.o by rw [hS]; unfold ofS; simp only [Int.toNat_natCast]; exact run_perm (S := S0 L N) ⟨fun i hi => hi, fun i j _ _ h => h⟩ N (Nat.le_refl _))
        have HG1 := Lib.hid (HOf.out.mono fun e w' h => h.ok rfl)
        rw [← hS] at HG1
        have HS := Lib.hid hS
        have HRun := Lib.hid hrun
        have HLen := Lib.hid hlen
        have HEl := Lib.hid (show (entries N (lowE S) (N * N)).length = M by rw [HM.out]; simp [entries])
        have HEu := Lib.hid (show (entries N (uppE S) (N * N)).length = M by rw [HM.out]; simp [entries])
        have HPv := Lib.hid (show (pivL S N).length = N by simp [pivL])
        have HN64 := Lib.hid (show N ≤ 64 by omega)
        clear hlen hf0 hrun hS HOf
        go_wp2_with fail
        refine HG1.out.mono ?_
        rintro e W1 ⟨b, rfl, h9, hb⟩
        have K1 := Lib.hid ((HK0.out.below hb).new (.cells #[.int .i64 0, .int .i64 0] 31))
        have H9 := Lib.hid (h9.below (below_new W1 (.cells #[.int .i64 0, .int .i64 0] 31)))
        obtain ⟨p0, p1, -⟩ := row2 (K1.out.row (W1.heap.size, .cells #[.int .i64 0, .int .i64 0] 31) (by simp))
        clear hb h9 HK0 HG1 bx0 bx1 bx2
        go_wp2_with fail
        refine (L_c _ H9.out HSf.out HN64.out).mono ?_
        rintro e W2 hr
        obtain ⟨Al, kl, rfl, hll, hrl, hb⟩ := RetMx.liesW hr HEl.out (entries_fin (low_fin HSf.out))
        have K2 := Lib.hid ((K1.out.below hb).addR hrl)
        have H92 := Lib.hid (H9.out.below hb)
        have HLl2 := Lib.hid hll
        clear hr hll hrl hb K1 H9 p0 p1
        go_wp2_with fail
        refine (U_c _ H92.out HSf.out HN64.out).mono ?_
        rintro e W3 hr
        obtain ⟨Au, ku, rfl, hlu, hru, hb⟩ := RetMx.liesW hr HEu.out (entries_fin (upp_fin HSf.out))
        have K3 := Lib.hid ((K2.out.below hb).addR hru)
        have H93 := Lib.hid (H92.out.below hb)
        have HLu2 := Lib.hid hlu
        have HLp2 := Lib.hid (show ltCs (pivL S N) from fun z hz => by
          unfold pivL at hz
          obtain ⟨i, hi, rfl⟩ := List.mem_map.1 hz
          have h1 := hlu _ (mem_entries (E := uppE S) (List.mem_range.1 hi) (List.mem_range.1 hi))
          unfold uppE at h1
          rwa [if_neg (Nat.lt_irrefl _)] at h1)
        clear hr hlu hru hb K2 H92
        go_wp2_with fail
        refine (Order_c _ H93.out HN64.out).mono ?_
        rintro e W4 hr
        obtain ⟨Ao, ko, rfl, hro, -, hb⟩ := hr.lies
        have K4 := Lib.hid (((K3.out.below hb).new2 (.cells #[.int .i64 (N : Nat), .int .i64 (N : Nat), .slice Al M kl] 26) (.cells #[.int .i64 (N : Nat), .int .i64 (N : Nat), .slice Au M ku] 26)))
        have hb4 : Below W4.heap.size W4 ((W4.alloc (.cells #[.int .i64 (N : Nat), .int .i64 (N : Nat), .slice Al M kl] 26)).alloc (.cells #[.int .i64 (N : Nat), .int .i64 (N : Nat), .slice Au M ku] 26)) := (below_new _ _).trans ((below_new _ _).mono (below_new _ _).size)
        have H94 := Lib.hid ((H93.out.below hb).below hb4)
        have HWw := Lib.hid (show Ww w ((W4.alloc (.cells #[.int .i64 (N : Nat), .int .i64 (N : Nat), .slice Al M kl] 26)).alloc (.cells #[.int .i64 (N : Nat), .int .i64 (N : Nat), .slice Au M ku] 26)) w.heap.size W4.heap.size (W4.heap.size + 1) N M A0 Al Au Ao c0 kl ku L (entries N (lowE S) (N * N)) (entries N (uppE S) (N * N)) ((List.range N).map fun i => ((S.o i : Nat) : Int)) from
          { bel := K4.out.bel
            m := K4.out.row _ (.tail _ (.tail _ (.tail _ (.head _))))
            l := K4.out.row _ (.tail _ (.head _))
            u := K4.out.row _ (.head _)
            rm := K4.out.rd _ (.tail _ (.tail _ (.head _)))
            rl := K4.out.rd _ (.tail _ (.head _))
            ru := K4.out.rd _ (.head _)
            ro := (hro.below hb4).more hb4.size })
        obtain ⟨-, -, xl, -⟩ := box3 HWw.out.l
        obtain ⟨-, -, xu, -⟩ := box3 HWw.out.u
        clear hr hro hb hb4 K3 H93 K4
        go_wp2_with fail
        refine (Pivots_c _ H94.out HN64.out).mono ?_
        rintro e W5 hr
        obtain ⟨Ap, kp, rfl, hrp, hlp, hb⟩ := RetL.liesW hr HPv.out
        have HW5 := Lib.hid (HWw.out.below hb)
        have H95 := Lib.hid (H94.out.below hb)
        obtain ⟨-, -, yl, -⟩ := box3 HW5.out.l
        obtain ⟨-, -, yu, -⟩ := box3 HW5.out.u
        have HSm := Lib.hid (small_c Al (entries N (lowE S) (N * N)) kl W5 HW5.out.rl HLl2.out (entries_fin (low_fin HSf.out)) (by rw [HEl.out]; omega))
        rw [HEl.out] at HSm
        clear hr hrp hlp hb xl xu HWw H94
        go_wp2_with fail
        refine HSm.out.mono ?_
        rintro e W6 ⟨v1, rfl, hv1, hb⟩
        have HW6 := Lib.hid (HW5.out.below hb)
        have H96 := Lib.hid (H95.out.below hb)
        obtain ⟨-, -, zl, -⟩ := box3 HW6.out.l
        obtain ⟨-, -, zu, -⟩ := box3 HW6.out.u
        have HV1 := Lib.hid hv1
        clear hv1 hb yl yu HSm HW5 H95
        have hAw : ∀ (V : World), Below w.heap.size w V → Calls Try.prog 11 #[] V fun e w' => e = .returned (.bool true) ∧ Below w.heap.size w w' := fun V hV => (awake9_c V).mono fun e w' h => ⟨h.1, hV.trans (h.2.mono hV.size)⟩
        have HAw := Lib.hid hAw
        clear hAw
        cases v1
        · clear hm
          go_wp2_with fail
          refine (HAw.out _ HW6.out.bel).mono ?_
          rintro e W7 ⟨rfl, hb⟩
          have HB := Lib.hid hb
          clear hb zl zu
          go_wp2
          go_ret
          exact ⟨rfl, HB.out⟩
        · have HSm := Lib.hid (small_c Au (entries N (uppE S) (N * N)) ku W6 HW6.out.ru HLu2.out (entries_fin (upp_fin HSf.out)) (by rw [HEu.out]; omega))
          rw [HEu.out] at HSm
          go_wp2_with fail
          refine HSm.out.mono ?_
          rintro e W7 ⟨v2, rfl, hv2, hb⟩
          have HW7 := Lib.hid (HW6.out.below hb)
          have H97 := Lib.hid (H96.out.below hb)
          have HV2 := Lib.hid hv2
          clear hv2 hb zl zu HSm HW6 H96
          cases v2
          · clear hm
            go_wp2_with fail
            refine (HAw.out _ HW7.out.bel).mono ?_
            rintro e W8 ⟨rfl, hb⟩
            have HB := Lib.hid hb
            clear hb
            go_wp2
            go_ret
            exact ⟨rfl, HB.out⟩
          · go_wp2_with fail
            refine (Pivots_c _ H97.out HN64.out).mono ?_
            rintro e W8 hr
            obtain ⟨Aq, kq, rfl, hrq, hlq, hb⟩ := RetL.liesW hr HPv.out
            have HW8 := Lib.hid (HW7.out.below hb)
            have HUn := Lib.hid (units_c Aq (pivL S N) kq W8 hrq HLp2.out (pivL_fin HSf.out) (by rw [HPv.out]; omega))
            rw [HPv.out] at HUn
            clear hr hrq hlq hb HW7 H97
            go_wp2_with fail
            refine HUn.out.mono ?_
            rintro e W9 ⟨v3, rfl, hv3, hb⟩
            have HW9 := Lib.hid (HW8.out.below hb)
            have HV3 := Lib.hid hv3
            clear hv3 hb HUn HW8
            cases v3
            · clear hm
              go_wp2_with fail
              refine (HAw.out _ HW9.out.bel).mono ?_
              rintro e W10 ⟨rfl, hb⟩
              have HB := Lib.hid hb
              clear hb
              go_wp2
              go_ret
              exact ⟨rfl, HB.out⟩
            · obtain ⟨za, zb, zf, zg, hWL⟩ := whole_of hN12 HLen.out (by rw [HS.out]) HRun.out HPerm.out.1 (fun z hz => by
                rw [HL.out] at hz
                obtain ⟨q, -, rfl⟩ := List.mem_map.1 hz
                exact zW_cx li q) (HV1.out (by trivial)) (HV2.out (by trivial)) (HV3.out (by trivial))
              have HWL := Lib.hid hWL
              clear hWL hm HV1 HV2 HV3 HL HFf HRun HSf HEl HEu HPv HLl2 HLu2 HLp2
              have HEl := Lib.hid (show (entries N (lowE S) (N * N)).length = M by rw [HM.out]; simp [entries])
              have HEu := Lib.hid (show (entries N (uppE S) (N * N)).length = M by rw [HM.out]; simp [entries])
              go_wp2
              go_loopw [13, 14, 15, 16, 17, 18, 19] (fun iv _ _ _ _ _ _ wr => ∃ i : Nat, i ≤ N ∧ iv = .int .i64 (i : Nat) ∧ Ww w wr w.heap.size W4.heap.size (W4.heap.size + 1) N M A0 Al Au Ao c0 kl ku L (entries N (lowE S) (N * N)) (entries N (uppE S) (N * N)) ((List.range N).map fun i => ((S.o i : Nat) : Int))) (fun iv _ _ _ _ _ _ _ => N - (intOf iv).toNat)
              case atStart => exact ⟨0, Nat.zero_le _, rfl, HW9.out⟩
              case round =>
                obtain ⟨i, hi', rfl, hw1⟩ := hrel
                rename World => V1
                have HW := Lib.hid hw1
                have hib : (i : Int) + 1 ≤ 13 := by omega
                clear hw1 HW9
                by_cases hlt : i < N
                · have hlti : (i : Int) < (N : Int) := Int.ofNat_lt.2 hlt
                  obtain ⟨p, hp⟩ : ∃ p, p = S.o i := ⟨_, rfl⟩
                  have hv : (intsV ((List.range N).map fun i => ((S.o i : Nat) : Int)))[i]? = some (.int .i64 (p : Nat)) := by simp [hlt, hp]
                  obtain ⟨ad, rfl, had, hc⟩ := HW.out.ro.at_ hv
                  have hpN : p < N := by rw [hp]; exact HPerm.out.1 i hlt
                  have HP := Lib.hid hp
                  have hd0 : decide ((p : Int) < 0) = false := by simp
                  have hd1 : decide ((p : Int) ≥ (N : Int)) = false := by simp; omega
                  clear hv hp had
                  go_wp2
                  go_loopw [14, 15, 16, 17, 18, 19] (fun jv _ _ _ _ _ wr => ∃ j : Nat, j ≤ N ∧ jv = .int .i64 (j : Nat) ∧ Ww w wr w.heap.size W4.heap.size (W4.heap.size + 1) N M A0 Al Au (some ad) c0 kl ku L (entries N (lowE S) (N * N)) (entries N (uppE S) (N * N)) ((List.range N).map fun i => ((S.o i : Nat) : Int))) (fun jv _ _ _ _ _ _ => N - (intOf jv).toNat)
                  case atStart => exact ⟨0, Nat.zero_le _, rfl, HW.out⟩
                  case round =>
                    obtain ⟨j, hj', rfl, hw1⟩ := hrel
                    rename World => V2
                    have HWj := Lib.hid hw1
                    have hjb : (j : Int) + 1 ≤ 13 := by omega
                    clear hw1
                    by_cases hltj : j < N
                    · have hltji : (j : Int) < (N : Int) := Int.ofNat_lt.2 hltj
                      go_wp2
                      go_loopw [15, 16, 17, 18, 19] (fun sa sb kv _ _ wr => ∃ k : Nat, k ≤ N ∧ kv = .int .i64 (k : Nat) ∧ sa = .int .i64 (sR zf zg i j k) ∧ sb = .int .i64 (sI zf zg i j k) ∧ Ww w wr w.heap.size W4.heap.size (W4.heap.size + 1) N M A0 Al Au (some ad) c0 kl ku L (entries N (lowE S) (N * N)) (entries N (uppE S) (N * N)) ((List.range N).map fun i => ((S.o i : Nat) : Int))) (fun _ _ kv _ _ _ => N - (intOf kv).toNat)
                      case atStart => exact ⟨0, Nat.zero_le _, rfl, rfl, rfl, HWj.out⟩
                      case round =>
                        obtain ⟨k, hk', rfl, rfl, rfl, hw1⟩ := hrel
                        rename World => V3
                        have HWk := Lib.hid hw1
                        have hkb : (k : Int) + 1 ≤ 13 := by omega
                        clear hw1
                        by_cases hltk : k < N
                        · have hltki : (k : Int) < (N : Int) := Int.ofNat_lt.2 hltk
                          have hi1 : (i + 1) * N ≤ N * N := Nat.mul_le_mul_right _ hlt
                          have hk1 : (k + 1) * N ≤ N * N := Nat.mul_le_mul_right _ hltk
                          rw [Nat.add_mul, Nat.one_mul] at hi1 hk1
                          obtain ⟨P1, hP1⟩ : ∃ P, P = i * N := ⟨_, rfl⟩
                          obtain ⟨P2, hP2⟩ : ∃ P, P = k * N := ⟨_, rfl⟩
                          rw [← hP1] at hi1
                          rw [← hP2] at hk1
                          rw [← HM.out] at hi1 hk1
                          obtain ⟨q1, hq1⟩ : ∃ q, q = P1 + k := ⟨_, rfl⟩
                          obtain ⟨q2, hq2⟩ : ∃ q, q = P2 + j := ⟨_, rfl⟩
                          have b1 : P1 ≤ 144 := by omega
                          have b2 : P2 ≤ 144 := by omega
                          have b3 : q1 ≤ 144 := by omega
                          have b4 : q2 ≤ 144 := by omega
                          have lt1 : q1 < M := by omega
                          have lt2 : q2 < M := by omega
                          have lt1i : (q1 : Int) < (M : Int) := Int.ofNat_lt.2 lt1
                          have lt2i : (q2 : Int) < (M : Int) := Int.ofNat_lt.2 lt2
                          have m1 : (i : Int) * (N : Int) = (P1 : Int) := by rw [hP1, Int.natCast_mul]
                          have m2 : (k : Int) * (N : Int) = (P2 : Int) := by rw [hP2, Int.natCast_mul]
                          have m3 : (P1 : Int) + (k : Int) = (q1 : Int) := by omega
                          have m4 : (P2 : Int) + (j : Int) = (q2 : Int) := by omega
                          obtain ⟨x, hx⟩ : ∃ x, x = lowE S i k := ⟨_, rfl⟩
                          obtain ⟨y, hy⟩ : ∃ y, y = uppE S k j := ⟨_, rfl⟩
                          have hxv : (nums (entries N (lowE S) (N * N)))[q1]? = some (.complex .f64 x.1 x.2) := by
                            rw [hx, hq1, hP1, ← entry_at (lowE S) hltk]
                            unfold entries nums
                            rw [List.map_map, List.getElem?_map, List.getElem?_range (by rw [← HM.out, ← hP1, ← hq1]; exact lt1)]; rfl
                          have hyv : (nums (entries N (uppE S) (N * N)))[q2]? = some (.complex .f64 y.1 y.2) := by
                            rw [hy, hq2, hP2, ← entry_at (uppE S) hltj]
                            unfold entries nums
                            rw [List.map_map, List.getElem?_map, List.getElem?_range (by rw [← HM.out, ← hP2, ← hq2]; exact lt2)]; rfl
                          obtain ⟨a1, rfl, -, hc1⟩ := HWk.out.rl.at_ hxv
                          obtain ⟨a2, rfl, -, hc2⟩ := HWk.out.ru.at_ hyv
                          obtain ⟨-, -, yl, -⟩ := box3 HWk.out.l
                          obtain ⟨-, -, yu, -⟩ := box3 HWk.out.u
                          have d1 : ∀ D, (V3.drewN D).cell? (a1.add q1) = some (.complex .f64 x.1 x.2) := fun _ => hc1
                          have d2 : ∀ D, (V3.drewN D).cell? (a2.add q2) = some (.complex .f64 y.1 y.2) := fun _ => hc2
                          have d3 : ∀ D, (V3.drewN D).cell? ⟨W4.heap.size, 2, none⟩ = some (.slice (some a1) M kl) := fun _ => yl
                          have d4 : ∀ D, (V3.drewN D).cell? ⟨W4.heap.size + 1, 2, none⟩ = some (.slice (some a2) M ku) := fun _ => yu
                          have n1 : decide ((q1 : Int) < 0) = false := by simp
                          have n2 : decide ((q2 : Int) < 0) = false := by simp
                          have cx : Cx x (lR zf i k) (lI zg i k) := by rw [hx]; exact low_cx (HWL.out.is i k hlt hltk)
                          have cy : Cx y (uR zf k j) (uR zg k j) := by rw [hy]; exact upp_cx (HWL.out.is k j hltk hltj)
                          obtain ⟨la, hla⟩ : ∃ v, v = lR zf i k := ⟨_, rfl⟩
                          obtain ⟨lb, hlb⟩ : ∃ v, v = lI zg i k := ⟨_, rfl⟩
                          obtain ⟨ua, hua⟩ : ∃ v, v = uR zf k j := ⟨_, rfl⟩
                          obtain ⟨ub, hub⟩ : ∃ v, v = uR zg k j := ⟨_, rfl⟩
                          rw [← hla, ← hlb] at cx
                          rw [← hua, ← hub] at cy
                          have bla : la.natAbs < 1048576 := by rw [hla]; exact lR_lt HWL.out.bf hlt hltk
                          have blb : lb.natAbs < 1048576 := by rw [hlb]; exact lI_lt HWL.out.bg hlt hltk
                          have bua : ua.natAbs < 1048576 := by rw [hua]; exact uR_lt HWL.out.bf hltk hltj
                          have bub : ub.natAbs < 1048576 := by rw [hub]; exact uR_lt HWL.out.bg hltk hltj
                          have v1 : ∀ w, (convert 52 3 (.float .f64 x.1)).run Try.prog w = .ok (.int .i64 la) w := fun w => run_convert_float_int (P := Try.prog) (w := w) 52 3 .f64 .i64 x.1 la (by rfl) (by rfl) (ex_toInt cx.1 (by omega))
                          have v2 : ∀ w, (convert 52 3 (.float .f64 x.2)).run Try.prog w = .ok (.int .i64 lb) w := fun w => run_convert_float_int (P := Try.prog) (w := w) 52 3 .f64 .i64 x.2 lb (by rfl) (by rfl) (ex_toInt cx.2 (by omega))
                          have v3 : ∀ w, (convert 52 3 (.float .f64 y.1)).run Try.prog w = .ok (.int .i64 ua) w := fun w => run_convert_float_int (P := Try.prog) (w := w) 52 3 .f64 .i64 y.1 ua (by rfl) (by rfl) (ex_toInt cy.1 (by omega))
                          have v4 : ∀ w, (convert 52 3 (.float .f64 y.2)).run Try.prog w = .ok (.int .i64 ub) w := fun w => run_convert_float_int (P := Try.prog) (w := w) 52 3 .f64 .i64 y.2 ub (by rfl) (by rfl) (ex_toInt cy.2 (by omega))
                          obtain ⟨ba, bb⟩ := sums_lt HWL.out.bf HWL.out.bg hlt hltj k hk'
                          obtain ⟨sr, hsr⟩ : ∃ v, v = sR zf zg i j k := ⟨_, rfl⟩
                          obtain ⟨si, hsi⟩ : ∃ v, v = sI zf zg i j k := ⟨_, rfl⟩
                          have hsr' : sR zf zg i j (k + 1) = sr + la * ua - lb * ub := by rw [hsr, hla, hlb, hua, hub]; rfl
                          have hsi' : sI zf zg i j (k + 1) = si + la * ub + lb * ua := by rw [hsi, hla, hlb, hua, hub]; rfl
                          rw [← hsr] at ba
                          rw [← hsi] at bb
                          rw [← hsr, ← hsi]
                          have e1 := mul_lt20 bla bua
                          have e2 := mul_lt20 blb bub
                          have e3 := mul_lt20 bla bub
                          have e4 := mul_lt20 blb bua
                          obtain ⟨p1, hp1⟩ : ∃ p, la * ua = p := ⟨_, rfl⟩
                          obtain ⟨p2, hp2⟩ : ∃ p, lb * ub = p := ⟨_, rfl⟩
                          obtain ⟨p3, hp3⟩ : ∃ p, la * ub = p := ⟨_, rfl⟩
                          obtain ⟨p4, hp4⟩ : ∃ p, lb * ua = p := ⟨_, rfl⟩
                          rw [hp1] at hsr' e1
                          rw [hp2] at hsr' e2
                          rw [hp3] at hsi' e3
                          rw [hp4] at hsi' e4
                          have ba' : sr.natAbs ≤ 28587302322180 := by omega
                          have bb' : si.natAbs ≤ 28587302322180 := by omega
                          have g1 : wrap64 (la * ua) = p1 := by rw [hp1]; exact wrap_small53 (by omega)
                          have g2 : wrap64 (lb * ub) = p2 := by rw [hp2]; exact wrap_small53 (by omega)
                          have g3 : wrap64 (la * ub) = p3 := by rw [hp3]; exact wrap_small53 (by omega)
                          have g4 : wrap64 (lb * ua) = p4 := by rw [hp4]; exact wrap_small53 (by omega)
                          obtain ⟨r1, hr1⟩ : ∃ r, r = sr + p1 := ⟨_, rfl⟩
                          obtain ⟨r2, hr2⟩ : ∃ r, r = r1 - p2 := ⟨_, rfl⟩
                          obtain ⟨r3, hr3⟩ : ∃ r, r = si + p3 := ⟨_, rfl⟩
                          obtain ⟨r4, hr4⟩ : ∃ r, r = r3 + p4 := ⟨_, rfl⟩
                          have g5 : wrap64 (sr + p1) = r1 := by rw [hr1]; exact wrap_small53 (by omega)
                          have g6 : wrap64 (r1 - p2) = r2 := by rw [hr2]; exact wrap_small53 (by omega)
                          have g7 : wrap64 (si + p3) = r3 := by rw [hr3]; exact wrap_small53 (by omega)
                          have g8 : wrap64 (r3 + p4) = r4 := by rw [hr4]; exact wrap_small53 (by omega)
                          have HSr := Lib.hid (show sR zf zg i j (k + 1) = r2 by rw [hsr', hr2, hr1])
                          have HSi := Lib.hid (show sI zf zg i j (k + 1) = r4 by rw [hsi', hr4, hr3])
                          clear hP1 hP2 hq1 hq2 hx hy hxv hyv cx cy hla hlb hua hub bla blb bua bub ba bb hsr hsi hsr' hsi' e1 e2 e3 e4 hp1 hp2 hp3 hp4 ba' bb' hr1 hr2 hr3 hr4 hc1 hc2 yl yu hi1 hk1
                          go_wp2
                          go_quiet (fail)
                          all_goals
                            go_wp2
                            go_roundw
                            case rel => exact ⟨k + 1, hltk, by go_num, by rw [g6, HSr.out], by rw [g8, HSi.out], HWk.out.below (below_drewN (Below.refl _ _) _)⟩
                            case measure => simp [intOf]; omega
                        · have e : k = N := by omega
                          subst e
                          obtain ⟨ra, hra⟩ : ∃ r, sR zf zg i j k = r := ⟨_, rfl⟩
                          obtain ⟨rb, hrb⟩ : ∃ r, sI zf zg i j k = r := ⟨_, rfl⟩
                          rw [hra, hrb]
                          obtain ⟨w1, w2⟩ := HWL.out.law i j hlt hltj
                          have era := hra.symm.trans w1
                          have erb := hrb.symm.trans w2
                          have wz := HWL.out.was i j hlt hltj
                          rw [← era, ← erb, ← HP.out] at wz
                          have hp1 : (p + 1) * k ≤ k * k := Nat.mul_le_mul_right _ hpN
                          rw [Nat.add_mul, Nat.one_mul] at hp1
                          obtain ⟨P1, hP1⟩ : ∃ P, P = p * k := ⟨_, rfl⟩
                          rw [← hP1] at hp1 wz
                          rw [← HM.out] at hp1
                          obtain ⟨q1, hq1⟩ : ∃ q, q = P1 + j := ⟨_, rfl⟩
                          rw [← hq1] at wz
                          have b1 : P1 ≤ 144 := by omega
                          have b3 : q1 ≤ 144 := by omega
                          have lt1 : q1 < M := by omega
                          have lt1i : (q1 : Int) < (M : Int) := Int.ofNat_lt.2 lt1
                          have m1 : (p : Int) * (k : Int) = (P1 : Int) := by rw [hP1, Int.natCast_mul]
                          have m3 : (P1 : Int) + (j : Int) = (q1 : Int) := by omega
                          obtain ⟨z, hz⟩ := some_of_lt (l := L) (k := q1) (by rw [HLl.out]; exact lt1)
                          rw [List.getD_eq_getElem?_getD, hz] at wz
                          have wz : Cx z ra rb := wz
                          have hzv : (nums L)[q1]? = some (.complex .f64 z.1 z.2) := by simp [nums, hz]
                          have hov : (intsV ((List.range k).map fun i => ((S.o i : Nat) : Int)))[i]? = some (.int .i64 (p : Nat)) := by simp [hlt, HP.out]
                          obtain ⟨a1, rfl, -, hc1⟩ := HWk.out.rm.at_ hzv
                          obtain ⟨a2, ea, -, hc2⟩ := HWk.out.ro.at_ hov
                          have e2 : ad = a2 := by simpa using ea
                          subst e2
                          obtain ⟨-, -, yl, -⟩ := box3 HWk.out.m
                          have d1 : ∀ D, (V3.drewN D).cell? (a1.add q1) = some (.complex .f64 z.1 z.2) := fun _ => hc1
                          have d2 : ∀ D, (V3.drewN D).cell? (ad.add i) = some (.int .i64 (p : Nat)) := fun _ => hc2
                          have d3 : ∀ D, (V3.drewN D).cell? ⟨w.heap.size, 2, none⟩ = some (.slice (some a1) M c0) := fun _ => yl
                          have n1 : decide ((q1 : Int) < 0) = false := by simp
                          obtain ⟨ba, bb⟩ := sums_lt HWL.out.bf HWL.out.bg hlt hltj k hk'
                          rw [hra] at ba
                          rw [hrb] at bb
                          have f1 : feq .f64 z.1 (floatOfInt .f64 ra) = true := ex_feq wz.1 (ex_nearest (by omega))
                          have f2 : feq .f64 z.2 (floatOfInt .f64 rb) = true := ex_feq wz.2 (ex_nearest (by omega))
                          clear hra hrb w1 w2 era erb wz hp1 hP1 hq1 hz hzv hov ea yl ba bb hc1 hc2
                          go_wp2
                          go_quiet (fail)
                          all_goals
                            go_wp2
                            go_roundw
                            case rel => exact ⟨j + 1, hltj, by go_num, HWk.out.below (below_drewN (Below.refl _ _) _)⟩
                            case measure => simp [intOf]; omega
                    · have e : j = N := by omega
                      subst e
                      go_wp2
                      go_roundw
                      case rel => exact ⟨i + 1, hlt, by go_num, HWj.out⟩
                      case measure => simp [intOf]; omega
                · have e : i = N := by omega
                  subst e
                  go_wp2_with fail
                  refine (HAw.out _ HW.out.bel).mono ?_
                  rintro e W10 ⟨rfl, hb⟩
                  have HB := Lib.hid hb
                  clear hb
                  go_wp2
                  go_ret
                  exact ⟨rfl, HB.out⟩
      · have hne : (f1 == 0) = false := by simpa using h0
        have HB := Lib.hid (HOf.out.mono fun e w' h => h.bad h0)
        clear HOf h0
        go_wp2_with fail
        clear hm
        refine HB.out.mono ?_
        rintro e W1 ⟨rfl, hb⟩
        have K1 := Lib.hid ((HK0.out.below hb).new (.cells #[.int .i64 f1, .int .i64 f2] 31))
        obtain ⟨p0, p1, -⟩ := row2 (K1.out.row (W1.heap.size, .cells #[.int .i64 f1, .int .i64 f2] 31) (by simp))
        clear hb HK0 bx0 bx1 bx2
        go_wp2_with fail
        refine (awake9_c _).mono ?_
        rintro e W2 ⟨rfl, hb⟩
        have K2 := Lib.hid (K1.out.below hb)
        clear hb p0 p1
        go_wp2
        go_ret
        exact ⟨rfl, K2.out.bel⟩
end Go.Proofs.Ytibjkmjccelcaaa
