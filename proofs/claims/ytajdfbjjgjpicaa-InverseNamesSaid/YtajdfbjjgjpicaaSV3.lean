/- Layer 10: unknowns out of what was eliminated (solve.Solve). -/
import Derived.Test.YtajdfbjjgjpicaaSV2
import Derived.Test.YtajdfbjjgjpicaaReg
import Derived.Deep.RegionHeld3
import Derived.Deep.DeepCutAuto
import Derived.BigRegion
namespace Go.Proofs.Ytajdfbjjgjpicaa
open Go.RowKit Fl Ieee
set_option maxRecDepth 20000
attribute [local go_sem] run_store_float run_store_complex Fl.order_self Fl.order_self' Fl.order_eq Fl.order_ne Fl.order_lt Fl.order_gt
/-- A list and what is told of it. -/
def RetSol (er : Int) (l : List C) (w : World) (e : Ending) (w' : World) : Prop :=
  ∃ s, e = .returned (.tuple #[s, .int .i64 er]) ∧ w'.ownsRow w.heap.size 53 1 s l.length (nums l) ∧ Below w.heap.size w w'
def bOf (l : List C) (i : Nat) : C := l.getD i (0, 0)
def solOk (n : Nat) (S : El) (l : List C) : Bool := solFine (lowE S) (uppE S) S.o (bOf l) n
def solL (n : Nat) (S : El) (l : List C) : List C := (List.range n).map (solX (lowE S) (uppE S) S.o (bOf l) n)
/-- What is being reckoned: the row of unknowns, whether all is finite. -/
structure SvS (W0 W : World) (n : Nat) (zs : Nat → C) (f : Bool) : Prop where
  bel : Below W0.heap.size W0 W
  look : W.heap[W0.heap.size]? = some (.cells #[.bool f] 113)
  x : W.heap[W0.heap.size + 1]? = some (.cells (nums ((List.range n).map zs)).toArray 53)
  lt : ∀ j, j < n → ltC (zs j)
theorem wrapI {x : Int} {y : Nat} (e : x = (y : Int)) (h : y ≤ 9223372036854775807) : IntKind.i64.wrap x = (y : Int) := by
  rw [e, IntKind.wrap_i64]; omega
theorem nums_setl (zs : List C) (k : Nat) (z : C) : (nums zs).set k (.complex .f64 z.1 z.2) = nums (zs.set k z) := by simp [nums, List.map_set]
theorem map_put {n i : Nat} {zs : Nat → C} {z : C} : (nums ((List.range n).map zs)).set i (.complex .f64 z.1 z.2) = nums ((List.range n).map (putX zs i z)) := by
  rw [nums_setl]
  congr 1
  apply List.ext_getElem
  · simp
  · intro q p1 p2
    have hq : q < n := by simpa using p2
    rw [List.getElem_set]
    by_cases e : i = q
    · subst e; simp [putX_same]
    · rw [if_neg e]; simp [putX_other (fun h => e h.symm)]
namespace SvS
variable {W0 W V : World} {n : Nat} {zs : Nat → C} {f : Bool}
theorem cellX (h : SvS W0 W n zs f) {i : Nat} (hi : i < n) : W.cell? ⟨W0.heap.size + 1, i, none⟩ = some (.complex .f64 (zs i).1 (zs i).2) := by
  rw [cell_of_row W (W0.heap.size + 1) i _ _ _ h.x]
  simp [nums, hi]
theorem frozenX (h : SvS W0 W n zs f) (i : Nat) : W.frozen? ⟨W0.heap.size + 1, i, none⟩ = false := frozen_of_row W (W0.heap.size + 1) i _ _ h.x
theorem put (h : SvS W0 W n zs f) {i : Nat} {z : C} (hi : i < n) (hz : ltC z) : SvS W0 (W.setCell ⟨W0.heap.size + 1, i, none⟩ (.complex .f64 z.1 z.2)) n (putX zs i z) f where
  bel := h.bel.setCell (Nat.le_succ _) _
  look := by rw [Below.heap_setCell _ _ _ _ (by show W0.heap.size ≠ W0.heap.size + 1; omega)]; exact h.look
  x := by
    rw [heap_setCell_same W (W0.heap.size + 1) i _ _ _ h.x]
    congr 2
    rw [← map_put]
    simp
  lt j hj := by
    by_cases e : j = i
    · subst e; rw [putX_same]; exact hz
    · rw [putX_other e]; exact h.lt j hj
theorem flag (h : SvS W0 W n zs f) (g : Bool) : SvS W0 (W.setCell ⟨W0.heap.size, 0, none⟩ (.bool g)) n zs g where
  bel := h.bel.setCell (Nat.le_refl _) _
  look := by rw [heap_setCell_same W W0.heap.size 0 _ _ _ h.look]; rfl
  x := by rw [Below.heap_setCell _ _ _ _ (by show W0.heap.size + 1 ≠ W0.heap.size; omega)]; exact h.x
  lt := h.lt
theorem drewN (h : SvS W0 W n zs f) (d : Nat) : SvS W0 (W.drewN d) n zs f := ⟨below_drewN h.bel d, h.look, h.x, h.lt⟩
theorem drew (h : SvS W0 W n zs f) : SvS W0 W.drew n zs f := ⟨h.bel.drew, h.look, h.x, h.lt⟩
end SvS
theorem ent_get {n i k : Nat} (E : Nat → Nat → C) (hi : i < n) (hk : k < n) : (nums (entries n E (n * n)))[i * n + k]? = some (.complex .f64 (E i k).1 (E i k).2) := by
  have h : i * n + k < n * n := by
    have h1 : (i + 1) * n ≤ n * n := Nat.mul_le_mul_right _ hi
    rw [Nat.add_mul, Nat.one_mul] at h1; omega
  unfold entries nums
  rw [List.getElem?_map, List.getElem?_map, List.getElem?_range h]
  show some (Value.complex .f64 (entry n E (i * n + k)).1 (entry n E (i * n + k)).2) = _
  rw [entry_at E hk]
theorem upp_lt {n i : Nat} {S : El} (h : ∀ i, i < n → ltC (S.E i i)) (hi : i < n) : ltC (uppE S i i) := by
  unfold uppE; rw [if_neg (Nat.lt_irrefl _)]; exact h i hi
theorem not_or (a b : Bool) : (!a || !b) = !(a && b) := by cases a <;> cases b <;> rfl
/-- What stands unchanged while it is reckoned. -/
structure SvE (W0 : World) (sb n : Nat) (Al Au Ao Ab : Option Addr) (kl ku ko : Nat) (S : El) (bl : List C) : Prop where
  sys : W0.heap[sb]? = some (.cells #[.int .i64 (n : Nat), .slice Al (n * n) kl, .slice Au (n * n) ku, .slice Ao n ko] 107)
  rl : Reads W0 W0.heap.size Al (nums (entries n (lowE S) (n * n)))
  ru : Reads W0 W0.heap.size Au (nums (entries n (uppE S) (n * n)))
  ro : Reads W0 W0.heap.size Ao (intsV (ordL n S.o))
  rb : Reads W0 W0.heap.size Ab (nums bl)
theorem ord_get {n i : Nat} (o : Nat → Nat) (hi : i < n) : (intsV (ordL n o))[i]? = some (.int .i64 (o i : Nat)) := by
  unfold ordL; simp [hi]
/-- Where the call has come up: the place that is written. -/
theorem put_facts {W0 wr V : World} {n i : Nat} {zs : Nat → C} {f g : Bool} (h : SvS W0 wr n zs f) (hi : i < n) {d : Nat} (hV : V = (wr.drew.drewN d).setCell ⟨W0.heap.size, 0, none⟩ (.bool g)) :
    SvS W0 V n zs g ∧ V.cell? ⟨W0.heap.size + 1, i, none⟩ = some (.complex .f64 (zs i).1 (zs i).2) ∧ V.frozen? ⟨W0.heap.size + 1, i, none⟩ = false := by
  have h1 : SvS W0 V n zs g := by rw [hV]; exact (h.drew.drewN d).flag g
  exact ⟨h1, h1.cellX hi, h1.frozenX i⟩
set_option linter.unusedSimpArgs false in
set_option maxHeartbeats 16000000 in
theorem Solve_run {B b n : Nat} {S : El} (Ab : Option Addr) (bl : List C) (cap : Nat) (w : World) (h : Has9 w B b n S) (hf : finTo S.E n) (hp : Perm n S.o) (hn : n ≤ 64) (hl : bl.length = n) (hfb : ∀ z ∈ bl, pFinite z = true) (hlt : ltCs bl) (hrd : Reads w w.heap.size Ab (nums bl)) :
    Calls Try.prog 50 #[.pointer (some ⟨b, 0, none⟩), .slice Ab bl.length cap] w (RetSol (if solOk n S bl then 0 else 6) (if solOk n S bl then solL n S bl else []) w) := by
  obtain ⟨er, her⟩ : ∃ er : Int, er = if solOk n S bl then 0 else 6 := ⟨_, rfl⟩
  obtain ⟨rs, hrs⟩ : ∃ rs : List C, rs = if solOk n S bl then solL n S bl else [] := ⟨_, rfl⟩
  rw [← her, ← hrs]
  have HEr := Lib.hid her
  have HRs := Lib.hid hrs
  have hE0 : bErr n bl = 0 := by
    unfold bErr
    rw [if_pos hl, if_neg fun hb => by
      have h1 : (!pFinite bl[badAt bl]) = true := List.findIdx_getElem (w := hb)
      rw [hfb _ (List.getElem_mem _)] at h1
      cases h1]
  have HOp := Lib.hid (open_c w h hf hn)
  have HWr := Lib.hid (fun (x1 x2 x3 : Value) (V : World) (h2 : Reads V V.heap.size Ab (nums bl)) => (show Calls Try.prog 85 #[.agg #[.int .i64 (n : Nat), x1, x2, x3], .slice Ab bl.length cap] V (RetV (.int .i64 0) V) from by
    rw [← hE0]; exact wrong_c n x1 x2 x3 Ab bl cap V hlt (by omega) hn h2))
  have HLtS := Lib.hid (show ∀ i, i < n → ltC (S.E i i) from fun i hi => by obtain ⟨_, _, _, _, _, _, _, hl⟩ := h.num hi hi; exact hl)
  have hmk := run_make_row' (P := Try.prog) 25 53 (.complex .f64 0 0) 16 Try.underlying25 infoNum rfl .i64 .i64 n (by omega) (by omega)
  have HRd := Lib.hid hrd
  have HF := Lib.hid hf
  have HP := Lib.hid hp
  have HN := Lib.hid hn
  have HBl := Lib.hid hl
  have HFb := Lib.hid hfb
  have HLt := Lib.hid hlt
  clear h hf hp hn hl hfb hlt hrd hE0 her hrs
  go_enter Try.func50, Try.ntmps50
  go_wp2_with fail
  refine HOp.out.mono ?_
  rintro e W1 ⟨Al, kl, Au, ku, Ao, ko, rfl, hrl, hru, hro, hb⟩
  obtain ⟨M, hM⟩ : ∃ M, M = n * n := ⟨_, rfl⟩
  rw [← hM]
  have hbn := below_new W1 (.cells #[.int .i64 (n : Nat), .slice Al M kl, .slice Au M ku, .slice Ao n ko] 107)
  have hR1 := (HRd.out.below hb).more hb.size
  have HRb := Lib.hid ((hR1.below hbn).more hbn.size)
  have HRl := Lib.hid ((hrl.below hbn).more hbn.size)
  have HRu := Lib.hid ((hru.below hbn).more hbn.size)
  have HRo := Lib.hid ((hro.below hbn).more hbn.size)
  have B1 := Lib.hid (hb.trans (hbn.mono hb.size))
  have HSy := Lib.hid (heap_alloc_new W1 (.cells #[.int .i64 (n : Nat), .slice Al M kl, .slice Au M ku, .slice Ao n ko] 107))
  have HM := Lib.hid hM
  clear hrl hru hro hb hbn hR1 hM
  go_wp2_with fail
  refine (HWr.out _ _ _ _ HRb.out).mono ?_
  rintro e W0 ⟨rfl, hb⟩
  have HE := Lib.hid (show SvE W0 W1.heap.size n Al Au Ao Ab kl ku ko S bl from
    { sys := by rw [← HM.out]; exact row_keep hb HSy.out
      rl := (HRl.out.below hb).more hb.size
      ru := (HRu.out.below hb).more hb.size
      ro := (HRo.out.below hb).more hb.size
      rb := (HRb.out.below hb).more hb.size })
  have B0 := Lib.hid (B1.out.trans (hb.mono B1.out.size))
  have hsys := HE.out.sys
  rw [← HM.out] at hsys
  obtain ⟨s0, -, -, -, -⟩ := box4 hsys
  have s0a : ∀ o, (W0.alloc o).cell? ⟨W1.heap.size, 0, none⟩ = some (.int .i64 (n : Nat)) := fun o => ((below_new W0 o).cell (p := ⟨W1.heap.size, 0, none⟩) (row_lt hsys)).trans s0
  have HLk := Lib.hid (below_new W0 (.cells #[.bool false] 113))
  clear hb hsys HRl HRu HRo HRb HSy HOp HWr
  go_wp2
  have HS0 := Lib.hid (show SvS W0 ((W0.alloc (.cells #[.bool false] 113)).alloc (.cells (madeCells #[.complex .f64 0 0] n) 53)) n (fun _ => (0, 0)) false from
    { bel := (below_new W0 _).new (Nat.le_refl _) _
      look := row_alloc (heap_alloc_new W0 _)
      x := by
        rw [show ((List.range n).map fun _ => ((0, 0) : C)) = List.replicate n (0, 0) by rw [List.map_const', List.length_range], ← mk_nums]
        exact row_new2 _ _ _
      lt := fun _ _ => ⟨by decide, by decide⟩ })
  obtain ⟨bb, hbb⟩ : ∃ bb, bb = bOf bl := ⟨_, rfl⟩
  have HBB := Lib.hid hbb
  clear s0 s0a hmk hbb
  have facts := Lib.hid (fun (V : World) (hV : Below W0.heap.size W0 V) =>
    (show (V.cell? ⟨W1.heap.size, 0, none⟩ = some (.int .i64 (n : Nat)) ∧ V.cell? ⟨W1.heap.size, 1, none⟩ = some (.slice Al M kl) ∧ V.cell? ⟨W1.heap.size, 2, none⟩ = some (.slice Au M ku) ∧ V.cell? ⟨W1.heap.size, 3, none⟩ = some (.slice Ao n ko)) from by
      have hs := row_keep hV HE.out.sys
      rw [← HM.out] at hs
      obtain ⟨a0, a1, a2, a3, -⟩ := box4 hs
      exact ⟨a0, a1, a2, a3⟩))
  go_loopw [35] (fun i wr => ∃ (i0 : Nat) (zs : Nat → C) (f : Bool), i0 ≤ n ∧ i = .int .i64 (i0 : Nat) ∧ SvS W0 wr n zs f ∧ (∀ j, j < i0 → cnC (zs j) = fwd (lowE S) S.o bb i0 j) ∧ f = !(fwdFine (lowE S) S.o bb i0)) (fun i _ => n - (intOf i).toNat)
  case atStart => exact ⟨0, _, _, Nat.zero_le _, rfl, HS0.out, fun j h => by omega, rfl⟩
  case round =>
    obtain ⟨i0, zs, f, hi0, rfl, hs, hz, hf⟩ := hrel
    have HS := Lib.hid hs
    have HZ := Lib.hid hz
    have HFl := Lib.hid hf
    have hib : (i0 : Int) + 1 ≤ 65 := by have := HN.out; omega
    obtain ⟨a0, -, -, a3⟩ := facts.out wr hs.bel
    clear hs hz hf
    by_cases hlt : i0 < n
    · have hlti : (i0 : Int) < (n : Int) := Int.ofNat_lt.2 hlt
      obtain ⟨p, hp⟩ : ∃ p, p = S.o i0 := ⟨_, rfl⟩
      have hpn : p < n := by rw [hp]; exact HP.out.1 _ hlt
      have hpi : (p : Int) < (n : Int) := Int.ofNat_lt.2 hpn
      have hov := ord_get S.o hlt
      rw [← hp] at hov
      obtain ⟨ado, rfl, -, hco⟩ := (HE.out.ro.below HS.out.bel).at_ hov
      have hbl : p < bl.length := by rw [HBl.out]; exact hpn
      have hbli : (p : Int) < (bl.length : Int) := Int.ofNat_lt.2 hbl
      obtain ⟨u, hu⟩ := some_of_lt hbl
      have hbv : (nums bl)[p]? = some (.complex .f64 u.1 u.2) := by simp [nums, hu]
      obtain ⟨adb, rfl, -, hcb⟩ := (HE.out.rb.below HS.out.bel).at_ hbv
      have hub : u = bb (S.o i0) := by rw [HBB.out, ← hp]; unfold bOf; rw [List.getD_eq_getElem?_getD, hu]; rfl
      have HU := Lib.hid hub
      have HUf := Lib.hid (HFb.out u (List.mem_of_getElem? hu))
      have HUl := Lib.hid (HLt.out u (List.mem_of_getElem? hu))
      have hcx := HS.out.cellX hlt
      have hfx := HS.out.frozenX i0
      have HS1 := Lib.hid (HS.out.put hlt HUl.out)
      have hln : (bl.length : Int) = (n : Int) := by rw [HBl.out]
      clear hp hov hu hbv hub hln hbl
      go_wp2
      go_loopw [50] (fun k wr => ∃ (k0 : Nat) (zs : Nat → C) (f : Bool), k0 ≤ i0 ∧ k = .int .i64 (k0 : Nat) ∧ SvS W0 wr n zs f ∧ (∀ j, j < i0 → cnC (zs j) = fwd (lowE S) S.o bb i0 j) ∧ cnC (zs i0) = accTo (lowE S i0) (fwd (lowE S) S.o bb i0) 0 (bb (S.o i0)) k0 ∧ f = !(fwdFine (lowE S) S.o bb i0 && accFine (lowE S i0) (fwd (lowE S) S.o bb i0) 0 (bb (S.o i0)) k0)) (fun k _ => i0 - (intOf k).toNat)
      case atStart =>
        refine ⟨0, _, _, Nat.zero_le _, rfl, HS1.out, fun j hj => ?_, ?_, ?_⟩
        · rw [putX_other (by omega)]; exact HZ.out j hj
        · rw [putX_same, ← HU.out]; exact fin_cn HUf.out
        · rw [HFl.out]; simp [accFine]
      case round =>
        obtain ⟨k0, zs, f, hk0, rfl, hs, hz, hzi, hf⟩ := hrel
        have HS := Lib.hid hs
        have HZ := Lib.hid hz
        have HZi := Lib.hid hzi
        have HFl := Lib.hid hf
        obtain ⟨a0, a1, -, -⟩ := facts.out wr hs.bel
        have hkb : (k0 : Int) + 1 ≤ 65 := by omega
        clear hs hz hzi hf
        by_cases hk : k0 < i0
        · have hki : (k0 : Int) < (i0 : Int) := Int.ofNat_lt.2 hk
          have hkn : k0 < n := by omega
          have hkni : (k0 : Int) < (n : Int) := Int.ofNat_lt.2 hkn
          have hev := ent_get (lowE S) hlt hkn
          obtain ⟨q, hq⟩ : ∃ q, q = i0 * n + k0 := ⟨_, rfl⟩
          obtain ⟨r, hr⟩ : ∃ r, r = i0 * n := ⟨_, rfl⟩
          have hr4 : r ≤ 4096 := by rw [hr]; exact prod_small (by have := HN.out; omega) HN.out
          have hqM : q < M := by
            rw [hq, HM.out]
            have h1 : (i0 + 1) * n ≤ n * n := Nat.mul_le_mul_right _ hlt
            rw [Nat.add_mul, Nat.one_mul] at h1; omega
          have hm1 : IntKind.i64.wrap ((i0 : Int) * (n : Int)) = (r : Int) := wrapI (by rw [hr, Int.natCast_mul]) (by omega)
          have hm2 : IntKind.i64.wrap ((r : Int) + (k0 : Int)) = (q : Int) := wrapI (by rw [hq, ← hr, Int.natCast_add]) (by omega)
          rw [← hq] at hev
          obtain ⟨adl, rfl, -, hcl⟩ := (HE.out.rl.below HS.out.bel).at_ hev
          have hqi : (q : Int) < (M : Int) := Int.ofNat_lt.2 hqM
          obtain ⟨lv, hlv⟩ : ∃ lv, lv = lowE S i0 k0 := ⟨_, rfl⟩
          rw [← hlv] at hcl
          have hx1 := HS.out.cellX hlt
          have hx2 := HS.out.cellX hkn
          obtain ⟨zi, hzi⟩ : ∃ zi, zi = zs i0 := ⟨_, rfl⟩
          obtain ⟨zk, hzk⟩ : ∃ zk, zk = zs k0 := ⟨_, rfl⟩
          rw [← hzi] at hx1
          rw [← hzk] at hx2
          have hval : pSub (cnC zi) (pMul (cnC lv) (cnC zk)) = accTo (lowE S i0) (fwd (lowE S) S.o bb i0) 0 (bb (S.o i0)) (k0 + 1) := by
            rw [hzi, HZi.out, hlv, fin_cn (low_fin HF.out i0 k0 hlt hkn), hzk, HZ.out k0 hk]
            show _ = pSub _ (pMul (lowE S i0 (0 + k0)) (fwd (lowE S) S.o bb i0 (0 + k0)))
            rw [Nat.zero_add]
          have HCall := Lib.hid (less_c W0.heap.size f zi lv zk wr.drew HS.out.look)
          have HPut := Lib.hid (fun (V : World) (d : Nat) (hV : V = (wr.drew.drewN d).setCell ⟨W0.heap.size, 0, none⟩ (.bool (f || !pFinite (pSub (cnC zi) (pMul (cnC lv) (cnC zk)))))) => (put_facts HS.out hlt hV).2)
          have HVal := Lib.hid hval
          clear hev hq hr hr4 hlv hzi hzk hval
          go_wp2_with fail
          refine wp_region_K 21 (by kernel_rfl) (fun V => V = wr.drew) (by kernel_rfl) (fun hsel hcl => ?_)
          refine wpAnyK_takeFree (i := 0) (v := ?va0) rfl hsel hcl (by kernel_rfl) (by kernel_rfl) rfl (fun _ _ _ h => h) rfl rfl ?hya0 (fun hcl => ?ha0)
          case hya0 => (intro w'; go_simp; first | done | with_reducible rfl)
          simp only [Act.put, List.setIfInBounds_toArray, List.set_cons_zero, List.set_cons_succ]
          refine wpAnyK_takeFree (i := 1) (v := ?va1) rfl hsel hcl (by kernel_rfl) (by kernel_rfl) rfl (fun _ _ _ h => h) rfl rfl ?hya1 (fun hcl => ?ha1)
          case hya1 => (intro w'; go_simp; first | done | with_reducible rfl)
          simp only [Act.put, List.setIfInBounds_toArray, List.set_cons_zero, List.set_cons_succ]
          refine wpAnyK_takeFree (i := 2) (v := ?va2) rfl hsel hcl (by kernel_rfl) (by kernel_rfl) rfl (fun _ _ _ h => h) rfl rfl ?hya2 (fun hcl => ?ha2)
          case hya2 => (intro w'; go_simp; first | done | with_reducible rfl)
          simp only [Act.put, List.setIfInBounds_toArray, List.set_cons_zero, List.set_cons_succ]
          refine wpAnyK_takeFree (i := 3) (v := ?va3) rfl hsel hcl (by kernel_rfl) (by kernel_rfl) rfl (fun _ _ _ h => h) rfl rfl ?hya3 (fun hcl => ?ha3)
          case hya3 => (intro w'; go_simp; first | done | with_reducible rfl)
          simp only [Act.put, List.setIfInBounds_toArray, List.set_cons_zero, List.set_cons_succ]
          refine wpAnyK_takeFree (i := 4) (v := ?va4) rfl hsel hcl (by kernel_rfl) (by kernel_rfl) rfl (fun _ _ _ h => h) rfl rfl ?hya4 (fun hcl => ?ha4)
          case hya4 => (intro w'; go_simp; first | done | with_reducible rfl)
          simp only [Act.put, List.setIfInBounds_toArray, List.set_cons_zero, List.set_cons_succ]
          refine wpAnyK_takeFree (i := 5) (v := ?va5) rfl hsel hcl (by kernel_rfl) (by kernel_rfl) rfl (fun _ _ _ h => h) rfl rfl ?hya5 (fun hcl => ?ha5)
          case hya5 => (intro w'; go_simp; first | done | with_reducible rfl)
          simp only [Act.put, List.setIfInBounds_toArray, List.set_cons_zero, List.set_cons_succ]
          refine wpAnyK_takeNeed [] (i := 6) (v := ?va6) rfl hsel hcl (by kernel_rfl) (by kernel_rfl) rfl (by decide +kernel) (fun _ _ _ h => h) rfl rfl ?hya6 (fun hcl => ?ha6)
          case hya6 => (rintro w' rfl; go_simp; first | done | with_reducible rfl)
          simp only [Act.put, List.setIfInBounds_toArray, List.set_cons_zero, List.set_cons_succ]
          refine wpAnyK_takeFree (i := 7) (v := ?va7) rfl hsel hcl (by kernel_rfl) (by kernel_rfl) rfl (fun _ _ _ h => h) rfl rfl ?hya7 (fun hcl => ?ha7)
          case hya7 => (intro w'; go_simp; first | done | with_reducible rfl)
          simp only [Act.put, List.setIfInBounds_toArray, List.set_cons_zero, List.set_cons_succ]
          refine wpAnyK_takeNeed [16, 15] (i := 8) (v := ?va8) rfl hsel hcl (by kernel_rfl) (by kernel_rfl) rfl (by decide +kernel) (fun _ _ _ h => h) rfl rfl ?hya8 (fun hcl => ?ha8)
          case hya8 => (rintro w' rfl; go_simp; first | done | with_reducible rfl)
          simp only [Act.put, List.setIfInBounds_toArray, List.set_cons_zero, List.set_cons_succ]
          refine wpAnyK_takeFree (i := 9) (v := ?va9) rfl hsel hcl (by kernel_rfl) (by kernel_rfl) rfl (fun _ _ _ h => h) rfl rfl ?hya9 (fun hcl => ?ha9)
          case hya9 => (intro w'; go_simp; first | done | with_reducible rfl)
          simp only [Act.put, List.setIfInBounds_toArray, List.set_cons_zero, List.set_cons_succ]
          refine wpAnyK_takeFree (i := 10) (v := ?va10) rfl hsel hcl (by kernel_rfl) (by kernel_rfl) rfl (fun _ _ _ h => h) rfl rfl ?hya10 (fun hcl => ?ha10)
          case hya10 => (intro w'; go_simp; first | done | with_reducible rfl)
          simp only [Act.put, List.setIfInBounds_toArray, List.set_cons_zero, List.set_cons_succ]
          refine wpAnyK_takeNeed [16, 15, 14, 12] (i := 11) (v := ?va11) rfl hsel hcl (by kernel_rfl) (by kernel_rfl) rfl (by decide +kernel) (fun _ _ _ h => h) rfl rfl ?hya11 (fun hcl => ?ha11)
          case hya11 => (rintro w' rfl; go_simp; first | done | with_reducible rfl)
          simp only [Act.put, List.setIfInBounds_toArray, List.set_cons_zero, List.set_cons_succ]
          refine wpAnyK_takeFree (i := 12) (v := ?va12) rfl hsel hcl (by kernel_rfl) (by kernel_rfl) rfl (fun _ _ _ h => h) rfl rfl ?hya12 (fun hcl => ?ha12)
          case hya12 => (intro w'; go_simp; first | done | with_reducible rfl)
          simp only [Act.put, List.setIfInBounds_toArray, List.set_cons_zero, List.set_cons_succ]
          refine wpAnyK_takeFree (i := 13) (v := ?va13) rfl hsel hcl (by kernel_rfl) (by kernel_rfl) rfl (fun _ _ _ h => h) rfl rfl ?hya13 (fun hcl => ?ha13)
          case hya13 => (intro w'; go_simp; first | done | with_reducible rfl)
          simp only [Act.put, List.setIfInBounds_toArray, List.set_cons_zero, List.set_cons_succ]
          refine wpAnyK_takeFree (i := 14) (v := ?va14) rfl hsel hcl (by kernel_rfl) (by kernel_rfl) rfl (fun _ _ _ h => h) rfl rfl ?hya14 (fun hcl => ?ha14)
          case hya14 => (intro w'; go_simp; first | done | with_reducible rfl)
          simp only [Act.put, List.setIfInBounds_toArray, List.set_cons_zero, List.set_cons_succ]
          refine wpAnyK_takeFree (i := 15) (v := ?va15) rfl hsel hcl (by kernel_rfl) (by kernel_rfl) rfl (fun _ _ _ h => h) rfl rfl ?hya15 (fun hcl => ?ha15)
          case hya15 => (intro w'; go_simp; first | done | with_reducible rfl)
          simp only [Act.put, List.setIfInBounds_toArray, List.set_cons_zero, List.set_cons_succ]
          refine wpAnyK_takeNeed [] (i := 16) (v := ?va16) rfl hsel hcl (by kernel_rfl) (by kernel_rfl) rfl (by decide +kernel) (fun _ _ _ h => h) rfl rfl ?hya16 (fun hcl => ?ha16)
          case hya16 => (rintro w' rfl; go_simp; first | done | with_reducible rfl)
          simp only [Act.put, List.setIfInBounds_toArray, List.set_cons_zero, List.set_cons_succ]
          refine wpAnyK_takeFree (i := 17) (v := ?va17) rfl hsel hcl (by kernel_rfl) (by kernel_rfl) rfl (fun _ _ _ h => h) rfl rfl ?hya17 (fun hcl => ?ha17)
          case hya17 => (intro w'; go_simp; first | done | with_reducible rfl)
          simp only [Act.put, List.setIfInBounds_toArray, List.set_cons_zero, List.set_cons_succ]
          refine wpAnyK_takeFree (i := 18) (v := ?va18) rfl hsel hcl (by kernel_rfl) (by kernel_rfl) rfl (fun _ _ _ h => h) rfl rfl ?hya18 (fun hcl => ?ha18)
          case hya18 => (intro w'; go_simp; first | done | with_reducible rfl)
          simp only [Act.put, List.setIfInBounds_toArray, List.set_cons_zero, List.set_cons_succ]
          refine wpAnyK_takeFree (i := 19) (v := ?va19) rfl hsel hcl (by kernel_rfl) (by kernel_rfl) rfl (fun _ _ _ h => h) rfl rfl ?hya19 (fun hcl => ?ha19)
          case hya19 => (intro w'; go_simp; first | done | with_reducible rfl)
          simp only [Act.put, List.setIfInBounds_toArray, List.set_cons_zero, List.set_cons_succ]
          refine wpAnyK_takeNeed [] (i := 20) (v := ?va20) rfl hsel hcl (by kernel_rfl) (by kernel_rfl) rfl (by decide +kernel) (fun _ _ _ h => h) rfl rfl ?hya20 (fun hcl => ?ha20)
          case hya20 => (rintro w' rfl; go_simp; first | done | with_reducible rfl)
          simp only [Act.put, List.setIfInBounds_toArray, List.set_cons_zero, List.set_cons_succ]
          refine wpAnyK_store (st := 21) rfl (by decide +kernel) rfl ?_
          go_simp
          refine HCall.out.mono ?_
          rintro e V ⟨z, d, rfl, hz, lz, hV⟩
          have HVe := Lib.hid hV
          obtain ⟨hcx, hfx⟩ := HPut.out V d hV
          clear hV
          refine wpAny_one (i := 22) rfl (by decide +kernel) rfl ?_
          go_simp
          refine wpAny_one (i := 23) rfl (by decide +kernel) rfl ?_
          go_simp
          refine wpAny_done (by decide +kernel) ?_ _
          all_goals
            have HV' := Lib.hid (put_facts HS.out hlt HVe.out).1
            have HZz := Lib.hid hz
            have HLz := Lib.hid lz
            clear hz lz hcx hfx hx1 hx2 hcl
            go_wp2
            go_roundw
            case rel =>
              refine ⟨k0 + 1, putX zs i0 z, _, hk, by go_num, HV'.out.put hlt HLz.out, fun j hj => ?_, ?_, ?_⟩
              · rw [putX_other (by omega)]; exact HZ.out j hj
              · rw [putX_same, HZz.out]; exact HVal.out
              · rw [HVal.out, HFl.out, not_or, Bool.and_assoc]; rfl
            case measure => simp [intOf]; omega
        · have e : k0 = i0 := by omega
          subst e
          clear a1
          go_wp2
          go_roundw
          case rel =>
            refine ⟨k0 + 1, zs, f, hlt, by go_num, HS.out, fun j hj => ?_, HFl.out⟩
            by_cases ej : j = k0
            · subst ej; rw [fwd, putX_same]; exact HZi.out
            · rw [fwd, putX_other ej]; exact HZ.out j (by omega)
          case measure => simp [intOf]; omega
    · have e : n = i0 := by omega
      subst e
      obtain ⟨Y, hY⟩ : ∃ Y, Y = fwd (lowE S) S.o bb n := ⟨_, rfl⟩
      obtain ⟨g0, hg0⟩ : ∃ g0, g0 = fwdFine (lowE S) S.o bb n := ⟨_, rfl⟩
      rw [← hY] at HZ
      rw [← hg0] at HFl
      have HSol := Lib.hid (show (solOk n S bl = (g0 && bwdFine (uppE S) n Y n)) ∧ solL n S bl = (List.range n).map (bwd (uppE S) n Y n) by
        rw [hg0, hY, HBB.out]; exact ⟨rfl, rfl⟩)
      clear hY hg0 a3
      go_wp2
      go_loopw [13] (fun i wr => ∃ (j : Nat) (zs : Nat → C) (f : Bool), j ≤ n ∧ i = .int .i64 ((n : Int) - 1 - (j : Int)) ∧ SvS W0 wr n zs f ∧ (∀ q, q < n → cnC (zs q) = bwd (uppE S) n Y j q) ∧ f = !(g0 && bwdFine (uppE S) n Y j)) (fun i _ => (intOf i + 1).toNat)
      case atStart => exact ⟨0, zs, f, Nat.zero_le _, by go_num, HS.out, HZ.out, by rw [HFl.out]; simp [bwdFine]⟩
      case round =>
        obtain ⟨j, zs, f, hj, rfl, hs, hz, hf⟩ := hrel
        have HS := Lib.hid hs
        have HZ := Lib.hid hz
        have HFl := Lib.hid hf
        obtain ⟨a0, -, -, -⟩ := facts.out wr hs.bel
        have hn65 : (n : Int) ≤ 64 := by have := HN.out; omega
        clear hs hz hf
        by_cases hlt : j < n
        · obtain ⟨i, hi⟩ : ∃ i : Nat, i = n - 1 - j := ⟨_, rfl⟩
          have hii : (n : Int) - 1 - (j : Int) = (i : Int) := by omega
          have hin : i < n := by omega
          have hini : (i : Int) < (n : Int) := Int.ofNat_lt.2 hin
          have hi1 : n - j = i + 1 := by omega
          have hij : i + 1 + j = n := by omega
          have HI := Lib.hid hi
          have HI1 := Lib.hid hi1
          have HIJ := Lib.hid hij
          have hib : (i : Int) + 1 ≤ 65 := by omega
          rw [hii]
          clear hi hi1 hii hij
          go_wp2
          go_loopw [14] (fun k wr => ∃ (m : Nat) (zs : Nat → C) (f : Bool), m ≤ j ∧ k = .int .i64 ((i + 1 + m : Nat) : Int) ∧ SvS W0 wr n zs f ∧ (∀ q, q < n → q ≠ i → cnC (zs q) = bwd (uppE S) n Y j q) ∧ cnC (zs i) = accTo (uppE S i) (bwd (uppE S) n Y j) (i + 1) (bwd (uppE S) n Y j i) m ∧ f = !(g0 && (bwdFine (uppE S) n Y j && accFine (uppE S i) (bwd (uppE S) n Y j) (i + 1) (bwd (uppE S) n Y j i) m))) (fun k _ => n - (intOf k).toNat)
          case atStart => exact ⟨0, zs, f, Nat.zero_le _, by go_num, HS.out, fun q hq _ => HZ.out q hq, HZ.out i hin, by rw [HFl.out]; simp [accFine]⟩
          case round =>
            obtain ⟨m, zs, f, hm, rfl, hs, hz, hzi, hf⟩ := hrel
            have HS := Lib.hid hs
            have HZ := Lib.hid hz
            have HZi := Lib.hid hzi
            have HFl := Lib.hid hf
            obtain ⟨a0, -, a2, -⟩ := facts.out wr hs.bel
            clear hs hz hzi hf
            have hcx := HS.out.cellX hin
            have hfx := HS.out.frozenX i
            obtain ⟨r, hr⟩ : ∃ r, r = i * n := ⟨_, rfl⟩
            have hr4 : r ≤ 4096 := by rw [hr]; exact prod_small (by omega) (by omega)
            have hm1 : IntKind.i64.wrap ((i : Int) * (n : Int)) = (r : Int) := wrapI (by rw [hr, Int.natCast_mul]) (by omega)
            have hrn : r + n ≤ M := by
              rw [hr, HM.out]
              have h1 : (i + 1) * n ≤ n * n := Nat.mul_le_mul_right _ hin
              rw [Nat.add_mul, Nat.one_mul] at h1; exact h1
            by_cases hk : m < j
            · obtain ⟨k, hk'⟩ : ∃ k, k = i + 1 + m := ⟨_, rfl⟩
              rw [← hk']
              have hkn : k < n := by have := HIJ.out; omega
              have hkni : (k : Int) < (n : Int) := Int.ofNat_lt.2 hkn
              have hkb : (k : Int) + 1 ≤ 65 := by omega
              have hki : k ≠ i := by omega
              have hev := ent_get (uppE S) hin hkn
              obtain ⟨q, hq⟩ : ∃ q, q = i * n + k := ⟨_, rfl⟩
              have hqM : q < M := by rw [hq, ← hr]; omega
              have hm2 : IntKind.i64.wrap ((r : Int) + (k : Int)) = (q : Int) := wrapI (by rw [hq, ← hr, Int.natCast_add]) (by omega)
              rw [← hq] at hev
              obtain ⟨adl, rfl, -, hcl⟩ := (HE.out.ru.below HS.out.bel).at_ hev
              have hqi : (q : Int) < (M : Int) := Int.ofNat_lt.2 hqM
              obtain ⟨lv, hlv⟩ : ∃ lv, lv = uppE S i k := ⟨_, rfl⟩
              rw [← hlv] at hcl
              have hx2 := HS.out.cellX hkn
              obtain ⟨zi, hzi⟩ : ∃ zi, zi = zs i := ⟨_, rfl⟩
              obtain ⟨zk, hzk⟩ : ∃ zk, zk = zs k := ⟨_, rfl⟩
              rw [← hzk] at hx2
              have hx1 := hcx
              rw [← hzi] at hx1
              have hval : pSub (cnC zi) (pMul (cnC lv) (cnC zk)) = accTo (uppE S i) (bwd (uppE S) n Y j) (i + 1) (bwd (uppE S) n Y j i) (m + 1) := by
                rw [hzi, HZi.out, hlv, fin_cn (upp_fin HF.out i k hin hkn), hzk, HZ.out k hkn hki, hk']
                rfl
              have HCall := Lib.hid (less_c W0.heap.size f zi lv zk wr.drew HS.out.look)
              have HPut := Lib.hid (fun (V : World) (d : Nat) (hV : V = (wr.drew.drewN d).setCell ⟨W0.heap.size, 0, none⟩ (.bool (f || !pFinite (pSub (cnC zi) (pMul (cnC lv) (cnC zk)))))) => (put_facts HS.out hin hV).2)
              have HVal := Lib.hid hval
              have HK := Lib.hid hk'
              clear hev hq hr hr4 hlv hzi hzk hval hk' hcx
              go_wp2_with fail
              refine wp_region_K 21 (by kernel_rfl) (fun V => V = wr.drew) (by kernel_rfl) (fun hsel hcl => ?_)
              refine wpAnyK_takeFree (i := 0) (v := ?vb0) rfl hsel hcl (by kernel_rfl) (by kernel_rfl) rfl (fun _ _ _ h => h) rfl rfl ?hyb0 (fun hcl => ?hb0)
              case hyb0 => (intro w'; go_simp; first | done | with_reducible rfl)
              simp only [Act.put, List.setIfInBounds_toArray, List.set_cons_zero, List.set_cons_succ]
              refine wpAnyK_takeFree (i := 1) (v := ?vb1) rfl hsel hcl (by kernel_rfl) (by kernel_rfl) rfl (fun _ _ _ h => h) rfl rfl ?hyb1 (fun hcl => ?hb1)
              case hyb1 => (intro w'; go_simp; first | done | with_reducible rfl)
              simp only [Act.put, List.setIfInBounds_toArray, List.set_cons_zero, List.set_cons_succ]
              refine wpAnyK_takeFree (i := 2) (v := ?vb2) rfl hsel hcl (by kernel_rfl) (by kernel_rfl) rfl (fun _ _ _ h => h) rfl rfl ?hyb2 (fun hcl => ?hb2)
              case hyb2 => (intro w'; go_simp; first | done | with_reducible rfl)
              simp only [Act.put, List.setIfInBounds_toArray, List.set_cons_zero, List.set_cons_succ]
              refine wpAnyK_takeFree (i := 3) (v := ?vb3) rfl hsel hcl (by kernel_rfl) (by kernel_rfl) rfl (fun _ _ _ h => h) rfl rfl ?hyb3 (fun hcl => ?hb3)
              case hyb3 => (intro w'; go_simp; first | done | with_reducible rfl)
              simp only [Act.put, List.setIfInBounds_toArray, List.set_cons_zero, List.set_cons_succ]
              refine wpAnyK_takeFree (i := 4) (v := ?vb4) rfl hsel hcl (by kernel_rfl) (by kernel_rfl) rfl (fun _ _ _ h => h) rfl rfl ?hyb4 (fun hcl => ?hb4)
              case hyb4 => (intro w'; go_simp; first | done | with_reducible rfl)
              simp only [Act.put, List.setIfInBounds_toArray, List.set_cons_zero, List.set_cons_succ]
              refine wpAnyK_takeFree (i := 5) (v := ?vb5) rfl hsel hcl (by kernel_rfl) (by kernel_rfl) rfl (fun _ _ _ h => h) rfl rfl ?hyb5 (fun hcl => ?hb5)
              case hyb5 => (intro w'; go_simp; first | done | with_reducible rfl)
              simp only [Act.put, List.setIfInBounds_toArray, List.set_cons_zero, List.set_cons_succ]
              refine wpAnyK_takeNeed [] (i := 6) (v := ?vb6) rfl hsel hcl (by kernel_rfl) (by kernel_rfl) rfl (by decide +kernel) (fun _ _ _ h => h) rfl rfl ?hyb6 (fun hcl => ?hb6)
              case hyb6 => (rintro w' rfl; go_simp; first | done | with_reducible rfl)
              simp only [Act.put, List.setIfInBounds_toArray, List.set_cons_zero, List.set_cons_succ]
              refine wpAnyK_takeFree (i := 7) (v := ?vb7) rfl hsel hcl (by kernel_rfl) (by kernel_rfl) rfl (fun _ _ _ h => h) rfl rfl ?hyb7 (fun hcl => ?hb7)
              case hyb7 => (intro w'; go_simp; first | done | with_reducible rfl)
              simp only [Act.put, List.setIfInBounds_toArray, List.set_cons_zero, List.set_cons_succ]
              refine wpAnyK_takeNeed [16, 15] (i := 8) (v := ?vb8) rfl hsel hcl (by kernel_rfl) (by kernel_rfl) rfl (by decide +kernel) (fun _ _ _ h => h) rfl rfl ?hyb8 (fun hcl => ?hb8)
              case hyb8 => (rintro w' rfl; go_simp; first | done | with_reducible rfl)
              simp only [Act.put, List.setIfInBounds_toArray, List.set_cons_zero, List.set_cons_succ]
              refine wpAnyK_takeFree (i := 9) (v := ?vb9) rfl hsel hcl (by kernel_rfl) (by kernel_rfl) rfl (fun _ _ _ h => h) rfl rfl ?hyb9 (fun hcl => ?hb9)
              case hyb9 => (intro w'; go_simp; first | done | with_reducible rfl)
              simp only [Act.put, List.setIfInBounds_toArray, List.set_cons_zero, List.set_cons_succ]
              refine wpAnyK_takeFree (i := 10) (v := ?vb10) rfl hsel hcl (by kernel_rfl) (by kernel_rfl) rfl (fun _ _ _ h => h) rfl rfl ?hyb10 (fun hcl => ?hb10)
              case hyb10 => (intro w'; go_simp; first | done | with_reducible rfl)
              simp only [Act.put, List.setIfInBounds_toArray, List.set_cons_zero, List.set_cons_succ]
              refine wpAnyK_takeNeed [16, 15, 14, 12] (i := 11) (v := ?vb11) rfl hsel hcl (by kernel_rfl) (by kernel_rfl) rfl (by decide +kernel) (fun _ _ _ h => h) rfl rfl ?hyb11 (fun hcl => ?hb11)
              case hyb11 => (rintro w' rfl; go_simp; first | done | with_reducible rfl)
              simp only [Act.put, List.setIfInBounds_toArray, List.set_cons_zero, List.set_cons_succ]
              refine wpAnyK_takeFree (i := 12) (v := ?vb12) rfl hsel hcl (by kernel_rfl) (by kernel_rfl) rfl (fun _ _ _ h => h) rfl rfl ?hyb12 (fun hcl => ?hb12)
              case hyb12 => (intro w'; go_simp; first | done | with_reducible rfl)
              simp only [Act.put, List.setIfInBounds_toArray, List.set_cons_zero, List.set_cons_succ]
              refine wpAnyK_takeFree (i := 13) (v := ?vb13) rfl hsel hcl (by kernel_rfl) (by kernel_rfl) rfl (fun _ _ _ h => h) rfl rfl ?hyb13 (fun hcl => ?hb13)
              case hyb13 => (intro w'; go_simp; first | done | with_reducible rfl)
              simp only [Act.put, List.setIfInBounds_toArray, List.set_cons_zero, List.set_cons_succ]
              refine wpAnyK_takeFree (i := 14) (v := ?vb14) rfl hsel hcl (by kernel_rfl) (by kernel_rfl) rfl (fun _ _ _ h => h) rfl rfl ?hyb14 (fun hcl => ?hb14)
              case hyb14 => (intro w'; go_simp; first | done | with_reducible rfl)
              simp only [Act.put, List.setIfInBounds_toArray, List.set_cons_zero, List.set_cons_succ]
              refine wpAnyK_takeFree (i := 15) (v := ?vb15) rfl hsel hcl (by kernel_rfl) (by kernel_rfl) rfl (fun _ _ _ h => h) rfl rfl ?hyb15 (fun hcl => ?hb15)
              case hyb15 => (intro w'; go_simp; first | done | with_reducible rfl)
              simp only [Act.put, List.setIfInBounds_toArray, List.set_cons_zero, List.set_cons_succ]
              refine wpAnyK_takeNeed [] (i := 16) (v := ?vb16) rfl hsel hcl (by kernel_rfl) (by kernel_rfl) rfl (by decide +kernel) (fun _ _ _ h => h) rfl rfl ?hyb16 (fun hcl => ?hb16)
              case hyb16 => (rintro w' rfl; go_simp; first | done | with_reducible rfl)
              simp only [Act.put, List.setIfInBounds_toArray, List.set_cons_zero, List.set_cons_succ]
              refine wpAnyK_takeFree (i := 17) (v := ?vb17) rfl hsel hcl (by kernel_rfl) (by kernel_rfl) rfl (fun _ _ _ h => h) rfl rfl ?hyb17 (fun hcl => ?hb17)
              case hyb17 => (intro w'; go_simp; first | done | with_reducible rfl)
              simp only [Act.put, List.setIfInBounds_toArray, List.set_cons_zero, List.set_cons_succ]
              refine wpAnyK_takeFree (i := 18) (v := ?vb18) rfl hsel hcl (by kernel_rfl) (by kernel_rfl) rfl (fun _ _ _ h => h) rfl rfl ?hyb18 (fun hcl => ?hb18)
              case hyb18 => (intro w'; go_simp; first | done | with_reducible rfl)
              simp only [Act.put, List.setIfInBounds_toArray, List.set_cons_zero, List.set_cons_succ]
              refine wpAnyK_takeFree (i := 19) (v := ?vb19) rfl hsel hcl (by kernel_rfl) (by kernel_rfl) rfl (fun _ _ _ h => h) rfl rfl ?hyb19 (fun hcl => ?hb19)
              case hyb19 => (intro w'; go_simp; first | done | with_reducible rfl)
              simp only [Act.put, List.setIfInBounds_toArray, List.set_cons_zero, List.set_cons_succ]
              refine wpAnyK_takeNeed [] (i := 20) (v := ?vb20) rfl hsel hcl (by kernel_rfl) (by kernel_rfl) rfl (by decide +kernel) (fun _ _ _ h => h) rfl rfl ?hyb20 (fun hcl => ?hb20)
              case hyb20 => (rintro w' rfl; go_simp; first | done | with_reducible rfl)
              simp only [Act.put, List.setIfInBounds_toArray, List.set_cons_zero, List.set_cons_succ]
              refine wpAnyK_store (st := 21) rfl (by decide +kernel) rfl ?_
              go_simp
              refine HCall.out.mono ?_
              rintro e V ⟨z, d, rfl, hz, lz, hV⟩
              have HVe := Lib.hid hV
              obtain ⟨hcx, hfx⟩ := HPut.out V d hV
              clear hV
              refine wpAny_one (i := 22) rfl (by decide +kernel) rfl ?_
              go_simp
              refine wpAny_one (i := 23) rfl (by decide +kernel) rfl ?_
              go_simp
              refine wpAny_done (by decide +kernel) ?_ _
              all_goals
                have HV' := Lib.hid (put_facts HS.out hin HVe.out).1
                have HZz := Lib.hid hz
                have HLz := Lib.hid lz
                clear hz lz hcx hfx hx1 hx2 hcl
                go_wp2
                go_roundw
                case rel =>
                  refine ⟨m + 1, putX zs i z, _, hk, by rw [HK.out]; go_num, HV'.out.put hin HLz.out, fun q hq hne => ?_, ?_, ?_⟩
                  · rw [putX_other hne]; exact HZ.out q hq hne
                  · rw [putX_same, HZz.out]; exact HVal.out
                  · rw [HVal.out, HFl.out, not_or, Bool.and_assoc, Bool.and_assoc]; rfl
                case measure => have := HK.out; simp [intOf]; omega
            · have e : m = j := by omega
              subst e
              rw [HIJ.out]
              have hev := ent_get (uppE S) hin hin
              obtain ⟨q, hq⟩ : ∃ q, q = i * n + i := ⟨_, rfl⟩
              have hqM : q < M := by rw [hq, ← hr]; omega
              have hm2 : IntKind.i64.wrap ((r : Int) + (i : Int)) = (q : Int) := wrapI (by rw [hq, ← hr, Int.natCast_add]) (by omega)
              rw [← hq] at hev
              obtain ⟨adl, rfl, -, hcl⟩ := (HE.out.ru.below HS.out.bel).at_ hev
              have hqi : (q : Int) < (M : Int) := Int.ofNat_lt.2 hqM
              obtain ⟨lv, hlv⟩ : ∃ lv, lv = uppE S i i := ⟨_, rfl⟩
              rw [← hlv] at hcl
              obtain ⟨zi, hzi⟩ : ∃ zi, zi = zs i := ⟨_, rfl⟩
              have hx1 := hcx
              rw [← hzi] at hx1
              have hlvl : ltC lv := by
                rw [hlv]; exact upp_lt HLtS.out hin
              have hval : pDiv (cnC zi) (cnC lv) = pDiv (bwdRow (uppE S) n (bwd (uppE S) n Y m) m) (uppE S (n - 1 - m) (n - 1 - m)) := by
                unfold bwdRow
                rw [hzi, HZi.out, hlv, fin_cn (upp_fin HF.out i i hin hin), ← HI.out, HI1.out]
              have HCall := Lib.hid (by_c W0.heap.size f zi lv wr.drew HS.out.look hlvl)
              have HPut := Lib.hid (fun (V : World) (d : Nat) (hV : V = (wr.drew.drewN d).setCell ⟨W0.heap.size, 0, none⟩ (.bool (f || !pFinite (pDiv (cnC zi) (cnC lv))))) => (put_facts HS.out hin hV).2)
              have HVal := Lib.hid hval
              clear hev hq hr hr4 hlv hzi hval hcx hlvl
              go_wp2_with fail
              refine wp_region_K 17 (by kernel_rfl) (fun V => V = wr.drew) (by kernel_rfl) (fun hsel hcl => ?_)
              refine wpAnyK_takeFree (i := 0) (v := ?vc0) rfl hsel hcl (by kernel_rfl) (by kernel_rfl) rfl (fun _ _ _ h => h) rfl rfl ?hyc0 (fun hcl => ?hc0)
              case hyc0 => (intro w'; go_simp; first | done | with_reducible rfl)
              simp only [Act.put, List.setIfInBounds_toArray, List.set_cons_zero, List.set_cons_succ]
              refine wpAnyK_takeFree (i := 1) (v := ?vc1) rfl hsel hcl (by kernel_rfl) (by kernel_rfl) rfl (fun _ _ _ h => h) rfl rfl ?hyc1 (fun hcl => ?hc1)
              case hyc1 => (intro w'; go_simp; first | done | with_reducible rfl)
              simp only [Act.put, List.setIfInBounds_toArray, List.set_cons_zero, List.set_cons_succ]
              refine wpAnyK_takeFree (i := 2) (v := ?vc2) rfl hsel hcl (by kernel_rfl) (by kernel_rfl) rfl (fun _ _ _ h => h) rfl rfl ?hyc2 (fun hcl => ?hc2)
              case hyc2 => (intro w'; go_simp; first | done | with_reducible rfl)
              simp only [Act.put, List.setIfInBounds_toArray, List.set_cons_zero, List.set_cons_succ]
              refine wpAnyK_takeFree (i := 3) (v := ?vc3) rfl hsel hcl (by kernel_rfl) (by kernel_rfl) rfl (fun _ _ _ h => h) rfl rfl ?hyc3 (fun hcl => ?hc3)
              case hyc3 => (intro w'; go_simp; first | done | with_reducible rfl)
              simp only [Act.put, List.setIfInBounds_toArray, List.set_cons_zero, List.set_cons_succ]
              refine wpAnyK_takeFree (i := 4) (v := ?vc4) rfl hsel hcl (by kernel_rfl) (by kernel_rfl) rfl (fun _ _ _ h => h) rfl rfl ?hyc4 (fun hcl => ?hc4)
              case hyc4 => (intro w'; go_simp; first | done | with_reducible rfl)
              simp only [Act.put, List.setIfInBounds_toArray, List.set_cons_zero, List.set_cons_succ]
              refine wpAnyK_takeFree (i := 5) (v := ?vc5) rfl hsel hcl (by kernel_rfl) (by kernel_rfl) rfl (fun _ _ _ h => h) rfl rfl ?hyc5 (fun hcl => ?hc5)
              case hyc5 => (intro w'; go_simp; first | done | with_reducible rfl)
              simp only [Act.put, List.setIfInBounds_toArray, List.set_cons_zero, List.set_cons_succ]
              refine wpAnyK_takeNeed [] (i := 6) (v := ?vc6) rfl hsel hcl (by kernel_rfl) (by kernel_rfl) rfl (by decide +kernel) (fun _ _ _ h => h) rfl rfl ?hyc6 (fun hcl => ?hc6)
              case hyc6 => (rintro w' rfl; go_simp; first | done | with_reducible rfl)
              simp only [Act.put, List.setIfInBounds_toArray, List.set_cons_zero, List.set_cons_succ]
              refine wpAnyK_takeFree (i := 7) (v := ?vc7) rfl hsel hcl (by kernel_rfl) (by kernel_rfl) rfl (fun _ _ _ h => h) rfl rfl ?hyc7 (fun hcl => ?hc7)
              case hyc7 => (intro w'; go_simp; first | done | with_reducible rfl)
              simp only [Act.put, List.setIfInBounds_toArray, List.set_cons_zero, List.set_cons_succ]
              refine wpAnyK_takeNeed [16, 15] (i := 8) (v := ?vc8) rfl hsel hcl (by kernel_rfl) (by kernel_rfl) rfl (by decide +kernel) (fun _ _ _ h => h) rfl rfl ?hyc8 (fun hcl => ?hc8)
              case hyc8 => (rintro w' rfl; go_simp; first | done | with_reducible rfl)
              simp only [Act.put, List.setIfInBounds_toArray, List.set_cons_zero, List.set_cons_succ]
              refine wpAnyK_takeFree (i := 9) (v := ?vc9) rfl hsel hcl (by kernel_rfl) (by kernel_rfl) rfl (fun _ _ _ h => h) rfl rfl ?hyc9 (fun hcl => ?hc9)
              case hyc9 => (intro w'; go_simp; first | done | with_reducible rfl)
              simp only [Act.put, List.setIfInBounds_toArray, List.set_cons_zero, List.set_cons_succ]
              refine wpAnyK_takeFree (i := 10) (v := ?vc10) rfl hsel hcl (by kernel_rfl) (by kernel_rfl) rfl (fun _ _ _ h => h) rfl rfl ?hyc10 (fun hcl => ?hc10)
              case hyc10 => (intro w'; go_simp; first | done | with_reducible rfl)
              simp only [Act.put, List.setIfInBounds_toArray, List.set_cons_zero, List.set_cons_succ]
              refine wpAnyK_takeNeed [16, 15, 14, 12] (i := 11) (v := ?vc11) rfl hsel hcl (by kernel_rfl) (by kernel_rfl) rfl (by decide +kernel) (fun _ _ _ h => h) rfl rfl ?hyc11 (fun hcl => ?hc11)
              case hyc11 => (rintro w' rfl; go_simp; first | done | with_reducible rfl)
              simp only [Act.put, List.setIfInBounds_toArray, List.set_cons_zero, List.set_cons_succ]
              refine wpAnyK_takeFree (i := 12) (v := ?vc12) rfl hsel hcl (by kernel_rfl) (by kernel_rfl) rfl (fun _ _ _ h => h) rfl rfl ?hyc12 (fun hcl => ?hc12)
              case hyc12 => (intro w'; go_simp; first | done | with_reducible rfl)
              simp only [Act.put, List.setIfInBounds_toArray, List.set_cons_zero, List.set_cons_succ]
              refine wpAnyK_takeFree (i := 13) (v := ?vc13) rfl hsel hcl (by kernel_rfl) (by kernel_rfl) rfl (fun _ _ _ h => h) rfl rfl ?hyc13 (fun hcl => ?hc13)
              case hyc13 => (intro w'; go_simp; first | done | with_reducible rfl)
              simp only [Act.put, List.setIfInBounds_toArray, List.set_cons_zero, List.set_cons_succ]
              refine wpAnyK_takeFree (i := 14) (v := ?vc14) rfl hsel hcl (by kernel_rfl) (by kernel_rfl) rfl (fun _ _ _ h => h) rfl rfl ?hyc14 (fun hcl => ?hc14)
              case hyc14 => (intro w'; go_simp; first | done | with_reducible rfl)
              simp only [Act.put, List.setIfInBounds_toArray, List.set_cons_zero, List.set_cons_succ]
              refine wpAnyK_takeFree (i := 15) (v := ?vc15) rfl hsel hcl (by kernel_rfl) (by kernel_rfl) rfl (fun _ _ _ h => h) rfl rfl ?hyc15 (fun hcl => ?hc15)
              case hyc15 => (intro w'; go_simp; first | done | with_reducible rfl)
              simp only [Act.put, List.setIfInBounds_toArray, List.set_cons_zero, List.set_cons_succ]
              refine wpAnyK_takeNeed [] (i := 16) (v := ?vc16) rfl hsel hcl (by kernel_rfl) (by kernel_rfl) rfl (by decide +kernel) (fun _ _ _ h => h) rfl rfl ?hyc16 (fun hcl => ?hc16)
              case hyc16 => (rintro w' rfl; go_simp; first | done | with_reducible rfl)
              simp only [Act.put, List.setIfInBounds_toArray, List.set_cons_zero, List.set_cons_succ]
              refine wpAnyK_store (st := 17) rfl (by decide +kernel) rfl ?_
              go_simp
              refine HCall.out.mono ?_
              rintro e V ⟨z, d, rfl, hz, lz, hV⟩
              have HVe := Lib.hid hV
              obtain ⟨hcx, hfx⟩ := HPut.out V d hV
              clear hV
              refine wpAny_one (i := 18) rfl (by decide +kernel) rfl ?_
              go_simp
              refine wpAny_one (i := 19) rfl (by decide +kernel) rfl ?_
              go_simp
              refine wpAny_done (by decide +kernel) ?_ _
              all_goals
                have HV' := Lib.hid (put_facts HS.out hin HVe.out).1
                have HZz := Lib.hid hz
                have HLz := Lib.hid lz
                clear hz lz hcx hfx hx1 hcl
                go_wp2
                go_roundw
                case rel =>
                  refine ⟨m + 1, putX zs i z, _, hlt, by have := HI.out; go_num, HV'.out.put hin HLz.out, fun q hq => ?_, ?_⟩
                  · show _ = putX (bwd (uppE S) n Y m) (n - 1 - m) _ q
                    rw [← HI.out]
                    by_cases eq : q = i
                    · subst eq; rw [putX_same, putX_same, HZz.out, HVal.out, ← HI.out]
                    · rw [putX_other eq, putX_other eq]; exact HZ.out q hq eq
                  · rw [HVal.out, HFl.out, not_or]
                    show _ = !(g0 && (bwdFine (uppE S) n Y m && accFine (uppE S (n - 1 - m)) (bwd (uppE S) n Y m) (n - m) (bwd (uppE S) n Y m (n - 1 - m)) m && pFinite _))
                    rw [← HI.out, HI1.out, Bool.and_assoc]
                case measure => simp [intOf]
        · have e : j = n := by omega
          subst e
          obtain ⟨so, hso⟩ : ∃ so, so = solOk j S bl := ⟨_, rfl⟩
          have hfo : f = !so := HFl.out.trans (by rw [hso]; exact congrArg (fun b => !b) HSol.out.1.symm)
          have hlk := HS.out.look
          have hl0 : wr.cell? ⟨W0.heap.size, 0, none⟩ = some (.bool f) := by rw [cell_of_row wr W0.heap.size 0 _ _ _ hlk]; rfl
          have hneg : ((j : Int) - 1 - (j : Int)) = -1 := by omega
          rw [hneg]
          rw [hfo] at hl0
          have HBe := Lib.hid (B0.out.trans (HS.out.bel.mono B0.out.size))
          have HSo := Lib.hid hso
          clear hso hfo hlk hneg
          cases so
          · go_wp2
            go_ret2
            rw [HEr.out, HRs.out, ← HSo.out]
            exact ⟨_, rfl, World.ownsRow_nil _ _ _ _, HBe.out⟩
          · have hx : (List.range j).map zs = solL j S bl := by
              rw [HSol.out.2]
              refine List.map_congr_left fun q hq => ?_
              have hq := List.mem_range.1 hq
              have hfi : pFinite (bwd (uppE S) j Y j q) = true := by
                have h := sol_fin (show solFine (lowE S) (uppE S) S.o (bOf bl) j = true from HSo.out.symm) q hq
                have e := congrArg (fun l : List C => l[q]?) HSol.out.2
                simp only [solL, List.getElem?_map, List.getElem?_range hq, Option.map_some, Option.some.injEq] at e
                rw [← e]; exact h
              exact like.fin (.inr (HZ.out q hq)) hfi
            have HX := Lib.hid hx
            clear hx
            go_wp2
            go_ret2
            rw [HEr.out, HRs.out, ← HSo.out]
            refine ⟨_, rfl, ?_, HBe.out⟩
            show World.ownsRow _ _ _ _ _ (solL j S bl).length (nums (solL j S bl))
            have hxx := HS.out.x
            rw [HX.out] at hxx
            have hll : (solL j S bl).length = j := by simp [solL]
            have hj64 := HN.out
            exact ⟨by simp [nums], .inr ⟨W0.heap.size + 1, j, _, by simp [hll], Nat.le_trans B0.out.size (Nat.le_succ _), hxx, by omega, by unfold maxLen; omega, by simp [nums, hll], by simp [nums, hll]; exact List.take_of_length_le (by simp [hll])⟩⟩
end Go.Proofs.Ytajdfbjjgjpicaa
