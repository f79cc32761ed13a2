/- Layer 9's small words: a matrix of two rows, the first example. -/
import Derived.Test.YtibjkmjccelcaaaKT1
import Derived.Test.YtibjkmjccelcaaaLW4
namespace Go.Proofs.Ytibjkmjccelcaaa
open Go.RowKit Fl Ieee
set_option maxRecDepth 20000
attribute [local go_sem] run_store_float run_store_complex
theorem own_new {w : World} {o : Obj} {l : List C} (hl : l.length ≤ maxLen) : ((w.alloc o).alloc (.cells (nums l).toArray 51)).ownsRow w.heap.size 51 1 (.slice (some ⟨w.heap.size + 1, 0, none⟩) l.length l.length) l.length (nums l) :=
  ⟨by simp [nums], .inr ⟨_, l.length, (nums l).toArray, rfl, Nat.le_succ _, row_new2 _ _ _, Nat.le_refl _, hl, by simp [nums], by simp [nums]; exact List.take_of_length_le (by simp)⟩⟩
theorem square_c (x y z u : C) (w : World) :
    Calls Try.prog 29 #[.complex .f64 x.1 x.2, .complex .f64 y.1 y.2, .complex .f64 z.1 z.2, .complex .f64 u.1 u.2] w (RetMs 2 2 [x, y, z, u] w) := by
  obtain ⟨x1, x2⟩ := x
  obtain ⟨y1, y2⟩ := y
  obtain ⟨z1, z2⟩ := z
  obtain ⟨u1, u2⟩ := u
  go_enter Try.func29, Try.ntmps29
  go_wp2
  refine bodyPost_ret (v := mval 2 2 (.slice (some ⟨w.heap.size + 1, 0, none⟩) 4 4)) (by simp [results, Try.results29, go_sem]) rfl ?_
  exact ⟨_, rfl, own_new (o := .cells #[.int .i64 2, .int .i64 2, .slice (some ⟨w.heap.size + 1, 0, none⟩) 4 4] 26) (l := [(x1, x2), (y1, y2), (z1, z2), (u1, u2)]) (by show 4 ≤ maxLen; decide), ((below_new _ _).new (Nat.le_refl _) _)⟩
/-- A list as it is told: where it lies, that it reads. -/
theorem RetMs.lies {w w' : World} {r c : Int} {l : List C} {e : Ending} (h : RetMs r c l w e w') : ∃ A cap, e = .returned (mval r c (.slice A l.length cap)) ∧ Reads w' w'.heap.size A (nums l) ∧ l.length ≤ cap ∧ (A = none → cap = 0) ∧ w'.ownsRow w.heap.size 51 1 (.slice A l.length cap) l.length (nums l) ∧ Below w.heap.size w w' := by
  obtain ⟨s, rfl, hown, hb⟩ := h
  obtain ⟨A, cap, rfl, h1, h2, h3⟩ := own_reads hown
  exact ⟨A, cap, rfl, h1, h2, h3, hown, hb⟩
theorem RetMx.lies {w w' : World} {r c : Nat} {l : List C} {e : Ending} (h : RetMx r c l w e w') : ∃ A zs cap, e = .returned (mval r c (.slice A zs.length cap)) ∧ zs.map cnC = l ∧ ltCs zs ∧ Reads w' w'.heap.size A (nums zs) ∧ zs.length ≤ cap ∧ (A = none → cap = 0) ∧ w'.ownsRow w.heap.size 51 1 (.slice A zs.length cap) zs.length (nums zs) ∧ Below w.heap.size w w' := by
  obtain ⟨s, zs, rfl, hz, hlz, hown, hb⟩ := h
  have e : l.length = zs.length := by rw [← hz, List.length_map]
  rw [e] at hown
  obtain ⟨A, cap, rfl, h1, h2, h3⟩ := own_reads hown
  exact ⟨A, zs, cap, rfl, hz, hlz, h1, h2, h3, hown, hb⟩
theorem RetO.lies {w w' : World} {n : Nat} {o : Nat → Nat} {e : Ending} (h : RetO n o w e w') : ∃ A cap, e = .returned (.slice A n cap) ∧ Reads w' w'.heap.size A (intsV ((List.range n).map fun i => ((o i : Nat) : Int))) ∧ w'.ownsRow w.heap.size 3 1 (.slice A n cap) n ((List.range n).map fun i => .int .i64 (o i : Nat)) ∧ Below w.heap.size w w' := by
  obtain ⟨s, rfl, hown, hb⟩ := h
  obtain ⟨A, m, cap, rfl, rfl⟩ := slice_of_own hown
  refine ⟨A, cap, rfl, ?_, hown, hb⟩
  have h1 := Reads.of_own hown
  have e : intsV ((List.range m).map fun i => ((o i : Nat) : Int)) = (List.range m).map fun i => Value.int .i64 (o i : Nat) := by simp [intsV, Function.comp_def]
  rw [e]; exact h1
/-- Of: it went well. -/
theorem RetOf.ok {n : Nat} {f : Int × Int} {S : El} {w w' : World} {e : Ending} (h : RetOf f n S w e w') (hf : f = (0, 0)) : ∃ b, e = .returned (.tuple #[.pointer (some ⟨b, 0, none⟩), .agg #[.int .i64 0, .int .i64 0]]) ∧ Has9 w' w.heap.size b n S ∧ Below w.heap.size w w' := by
  subst hf
  obtain ⟨v, rfl, hb, h1, -⟩ := h
  obtain ⟨-, b, rfl, h9⟩ := h1 rfl
  exact ⟨b, rfl, h9, hb⟩
/-- Of: it was refused. -/
theorem RetOf.bad {n : Nat} {f : Int × Int} {S : El} {w w' : World} {e : Ending} (h : RetOf f n S w e w') (hf : f.1 ≠ 0) : e = .returned (.tuple #[.pointer none, .agg #[.int .i64 f.1, .int .i64 f.2]]) ∧ Below w.heap.size w w' := by
  obtain ⟨v, rfl, hb, -, h1⟩ := h
  rw [h1 hf]
  exact ⟨rfl, hb⟩
theorem cnC_idem {x y : C} (h : y = cnC x) : cnC y = y := by rw [h, cnC_cnC]
/-- The first example. -/
def exA : List C := [(0, fone), (fone, 0), (fone, 0), (0, 0)]
theorem exA_f : ofF 2 2 exA = (0, 0) := by decide +kernel
theorem exA_o : ((List.range 2).map fun i => (((ofS 2 exA).o i : Nat) : Int)) = [0, 1] := by decide +kernel
theorem exA_s : sgI (ofS 2 exA).s = 1 := by decide +kernel
theorem exA_u : entries 2 (uppE (ofS 2 exA)) 4 = [(0, fone), (fone, 0), (0, 0), (0, fone)] := by decide +kernel
theorem exA_fin : ∀ z ∈ exA, pFinite z = true := by decide +kernel
theorem exA_lt : ltCs exA := by intro z hz; simp [exA] at hz; rcases hz with rfl | rfl | rfl | rfl <;> exact ⟨by decide, by decide⟩
theorem exA_fin' : finTo (ofS 2 exA).E 2 := elRun_fin (matE_fin (l := exA) (n := 2) rfl exA_fin) 2 (Nat.le_refl _)
theorem two_ints {w : World} : Reads (w.alloc (.cells #[.int .i64 0, .int .i64 1] 3)) (w.alloc (.cells #[.int .i64 0, .int .i64 1] 3)).heap.size (some ⟨w.heap.size, 0, none⟩) (intsV [0, 1]) := by
  have h := Reads.new w 3 (intsV [0, 1])
  exact h.more (by simp)
set_option maxHeartbeats 4000000 in
theorem awake9_c (w : World) : Calls Try.prog 11 #[] w (RetBB true w) := by
  have H1 := Lib.hid (fun V => square_c (0, fone) (fone, 0) (fone, 0) (0, 0) V)
  have H2 := Lib.hid (fun V => square_c (0, fone) (fone, 0) (0, 0) (0, fone) V)
  go_enter Try.func11, Try.ntmps11
  go_wp2_with fail
  refine (H1.out _).mono ?_
  rintro e W1 hr
  obtain ⟨A, cap, rfl, hrd, hle, -, -, hb⟩ := hr.lies
  have B1 := Lib.hid hb
  have HOf := Lib.hid (show Calls Try.prog 13 #[mval 2 2 (.slice A exA.length cap)] W1 (RetOf (ofF 2 2 exA) 2 (ofS 2 exA) W1) from Of_c 2 2 A exA cap W1 hle hrd exA_lt)
  clear hr hb hrd hle
  go_wp2_with fail
  refine HOf.out.mono ?_
  rintro e W2 hr
  obtain ⟨b, rfl, h9, hb⟩ := hr.ok exA_f
  have B2 := Lib.hid (B1.out.trans (hb.mono B1.out.size))
  have hb3 : Below W2.heap.size W2 (W2.alloc (.cells #[.int .i64 0, .int .i64 0] 31)) := below_new _ _
  have h9' := h9.below hb3
  have B3 := Lib.hid (B2.out.trans (hb3.mono B2.out.size))
  have HO := Lib.hid (Order_c _ h9' (by decide))
  have HB3 := Lib.hid hb3
  have H9 := Lib.hid h9'
  clear hr hb h9 hb3 h9'
  go_wp2_with fail
  refine HO.out.mono ?_
  rintro e W4 hr
  obtain ⟨Ao, co, rfl, hrd, -, hb⟩ := hr.lies
  rw [show ((List.range 2).map fun i => (((ofS 2 exA).o i : Nat) : Int)) = [0, 1] from exA_o] at hrd
  have hb4 : Below W4.heap.size W4 (W4.alloc (.cells #[.int .i64 0, .int .i64 1] 3)) := below_new _ _
  have HS := Lib.hid (SameInts_t Ao (some ⟨W4.heap.size, 0, none⟩) [0, 1] 2 co 2 _ rfl (by decide) ((hrd.below hb4).more hb4.size) two_ints)
  have h9b := (H9.out.below hb).below hb4
  have B4 := Lib.hid ((B3.out.trans (hb.mono B3.out.size)).trans (hb4.mono (B3.out.trans (hb.mono B3.out.size)).size))
  have H9b := Lib.hid h9b
  clear hr hrd hb hb4 h9b
  go_wp2_with fail
  refine HS.out.mono ?_
  rintro e W5 ⟨d, rfl, hd⟩
  have h9c : Has9 W5 W1.heap.size b 2 (ofS 2 exA) := by rw [hd]; exact H9b.out.below (below_drewN (Below.refl _ _) d)
  have B5 : Hid (Below w.heap.size w W5) := by rw [hd]; exact below_drewN B4.out d
  have H9c := Lib.hid h9c
  have HSg := Lib.hid (Sign_c W5 h9c)
  have HU := Lib.hid (U_c W5 h9c exA_fin' (by decide))
  clear hd h9c
  go_wp2_with fail
  refine HSg.out.mono ?_
  rw [exA_s]
  rintro e w' ⟨rfl, rfl⟩
  go_wp2_with fail
  refine HU.out.mono ?_
  rintro e W6 hr
  obtain ⟨Au, zu, cu, rfl, hz, -, hrd, -, -, -, hb⟩ := hr.lies
  have B6 := Lib.hid (B5.out.trans (hb.mono B5.out.size))
  have HRu := Lib.hid hrd
  have HZu := Lib.hid hz
  clear hr hz hrd hb
  go_wp2_with fail
  refine (H2.out _).mono ?_
  rintro e W7 hr
  obtain ⟨Aq, cq, rfl, hrd, -, -, -, hb⟩ := hr.lies
  have hzl : zu.length = 4 := by have := congrArg List.length HZu.out; simpa [entries] using this
  have HE := Lib.hid (EqualMatrix_t 2 2 Au Aq zu [(0, fone), (fone, 0), (0, 0), (0, fone)] 4 cu cq W7 hzl rfl (by
    intro k x y hx hy
    have h1 : (zu.map cnC)[k]? = some (cnC x) := by rw [List.getElem?_map, hx]; rfl
    rw [HZu.out, exA_u, hy] at h1
    have h2 : y = cnC x := Option.some.inj h1
    have hk := lt_of_some hy
    rw [← h2, cnC_idem h2]
    clear h1 h2 hx x
    match k, hk, hy with
    | 0, _, hy => cases hy; decide +kernel
    | 1, _, hy => cases hy; decide +kernel
    | 2, _, hy => cases hy; decide +kernel
    | 3, _, hy => cases hy; decide +kernel) (by decide) ((HRu.out.below hb).more hb.size) hrd)
  have B7 := Lib.hid (B6.out.trans (hb.mono B6.out.size))
  rw [hzl]
  clear hr hrd hb
  go_wp2_with fail
  refine HE.out.mono ?_
  rintro e W8 ⟨rfl, hb⟩
  have B8 := Lib.hid (B7.out.trans (hb.mono B7.out.size))
  clear hb
  go_wp2
  go_ret
  exact ⟨rfl, B8.out⟩
end Go.Proofs.Ytibjkmjccelcaaa
