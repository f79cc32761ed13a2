/- Layer 9: what is told of none; what is refused. -/
import Derived.Test.YtibjkmjccelcaaaKT2
namespace Go.Proofs.Ytibjkmjccelcaaa
open Go.RowKit Fl Ieee
set_option maxRecDepth 20000
attribute [local go_sem] run_store_float run_store_complex
theorem RetMx.liesM {w w' : World} {r c M : Nat} {l : List C} {e : Ending} (h : RetMx r c l w e w') (hM : l.length = M) : ∃ A zs cap, e = .returned (mval r c (.slice A M cap)) ∧ zs.length = M ∧ zs.map cnC = l ∧ Reads w' w'.heap.size A (nums zs) ∧ Below w.heap.size w w' := by
  obtain ⟨A, zs, cap, rfl, hz, hlz, h1, -, -, -, hb⟩ := h.lies
  have e : zs.length = M := by rw [← hM, ← hz, List.length_map]
  exact ⟨A, zs, cap, by rw [e], e, hz, h1, hb⟩
theorem RetMs.liesM {w w' : World} {r c : Int} {M : Nat} {l : List C} {e : Ending} (h : RetMs r c l w e w') (hM : l.length = M) : ∃ A cap, e = .returned (mval r c (.slice A M cap)) ∧ Reads w' w'.heap.size A (nums l) ∧ M ≤ cap ∧ Below w.heap.size w w' := by
  obtain ⟨A, cap, rfl, h1, h2, -, -, hb⟩ := h.lies
  exact ⟨A, cap, by rw [hM], h1, by omega, hb⟩
/-- No elimination: nil, or one that nobody made. -/
def NoneV (W : World) (v : Value) : Prop := v = .pointer none ∨ ∃ b, v = .pointer (some ⟨b, 0, none⟩) ∧ b < W.heap.size ∧ W.cell? ⟨b, 0, none⟩ = some (.bool false)
theorem NoneV.below {W V : World} {v : Value} (h : NoneV W v) (hb : Below W.heap.size W V) : NoneV V v := by
  rcases h with h | ⟨b, h1, h2, h3⟩
  · exact .inl h
  · exact .inr ⟨b, h1, Nat.lt_of_lt_of_le h2 hb.size, (hb.cell (p := ⟨b, 0, none⟩) h2).trans h3⟩
theorem is9_no {v : Value} (W : World) (h : NoneV W v) : Calls Try.prog 47 #[v] W (RetP (.bool false) W) := by
  rcases h with rfl | ⟨b, rfl, _, h3⟩
  · exact is9_nil W
  · exact is9_f W h3
theorem Size_no {v : Value} (W : World) (h : NoneV W v) : Calls Try.prog 34 #[v] W (RetP (.int .i64 0) W) := by
  have HI := Lib.hid (is9_no W h)
  clear h
  go_enter Try.func34, Try.ntmps34
  go_wp2_with fail
  refine HI.out.mono ?_
  rintro e w' ⟨rfl, rfl⟩
  go_wp2
  go_ret; exact ⟨rfl, rfl⟩
theorem Sign_no {v : Value} (W : World) (h : NoneV W v) : Calls Try.prog 18 #[v] W (RetP (.int .i64 0) W) := by
  have HI := Lib.hid (is9_no W h)
  clear h
  go_enter Try.func18, Try.ntmps18
  go_wp2_with fail
  refine HI.out.mono ?_
  rintro e w' ⟨rfl, rfl⟩
  go_wp2
  go_ret; exact ⟨rfl, rfl⟩
theorem Order_no {v : Value} (W : World) (h : NoneV W v) : Calls Try.prog 17 #[v] W (RetP (.slice none 0 0) W) := by
  have HI := Lib.hid (is9_no W h)
  clear h
  go_enter Try.func17, Try.ntmps17
  go_wp2_with fail
  refine HI.out.mono ?_
  rintro e w' ⟨rfl, rfl⟩
  go_wp2
  go_ret; exact ⟨rfl, rfl⟩
theorem Pivots_no {v : Value} (W : World) (h : NoneV W v) : Calls Try.prog 26 #[v] W (RetP (.slice none 0 0) W) := by
  have HI := Lib.hid (Size_no W h)
  clear h
  go_enter Try.func26, Try.ntmps26
  go_wp2_with fail
  refine HI.out.mono ?_
  rintro e w' ⟨rfl, rfl⟩
  go_wp2
  go_loopw [3, 7] (fun s i wr => s = .slice none 0 0 ∧ i = .int .i64 0 ∧ wr = W) (fun _ _ _ => 0)
  case atStart => exact ⟨rfl, rfl, rfl⟩
  case round =>
    obtain ⟨rfl, rfl, rfl⟩ := hrel
    go_wp2
    go_ret; exact ⟨rfl, rfl⟩
set_option maxHeartbeats 1000000 in
theorem L_no {v : Value} (w : World) (h : NoneV w v) : Calls Try.prog 15 #[v] w (RetMx 0 0 [] w) := by
  obtain ⟨p0, hrow, hb0⟩ := frameP (w := w) (v := v) (t := 39) (o := zrow)
  have HRow := Lib.hid hrow
  have HB0 := Lib.hid hb0
  have HNo := Lib.hid h
  have hmf : ∀ (fn : Fn) (first cap : Array Value) (W : World), (Instr.makeFunc fn first cap).run Try.prog W = .ok (.func fn first cap) W := fun _ _ _ _ => rfl
  have hbox : (Op.box 39 (.tmp 0)) = (Op.box 39 (.tmp 0)) := rfl
  clear hrow hb0 h hbox
  have hv : ∃ a, v = .pointer a := by
    rcases HNo.out with h | ⟨b, h, _⟩
    · exact ⟨_, h⟩
    · exact ⟨_, h⟩
  obtain ⟨a, rfl⟩ := hv
  go_enter Try.func15, Try.ntmps15
  go_wp2_with fail
  refine (part_c 0 (Nat.zero_le _) (.pointer a) 45 #[.pointer (some ⟨w.heap.size, 0, none⟩)] (fun _ _ => (0, 0)) _ ?_ L_enters ?_).mono ?_
  · intro W hW
    exact Size_no W ((HNo.out.below HB0.out).below hW)
  · intro i j W hi
    omega
  rintro e W2 ⟨s, zs, rfl, hz, hlz, hown, hb2⟩
  obtain ⟨r0, r1, r2, fr⟩ := box3 ((hb2.block (w.heap.size + 1) (by simp)).trans HRow.out)
  have f0 := fr 0
  have f1 := fr 1
  have f2 := fr 2
  obtain ⟨sA, sn, sc, rfl, -⟩ := slice_of_own hown
  have HZ := Lib.hid hz
  have HL := Lib.hid hlz
  have HO := Lib.hid (own_base hown (show w.heap.size + 1 + 1 ≤ _ by simp))
  have HB2 := Lib.hid (HB0.out.trans (hb2.mono HB0.out.size))
  clear hz hlz hown hb2 fr p0
  go_wp2
  obtain ⟨q0, q1, q2⟩ := set3 (u := .int .i64 0) (v := .int .i64 0) (t := .slice sA sn sc) r0 r1 r2
  refine bodyPost_ret (v := mval 0 0 (.slice sA sn sc)) (by simp [results, Try.results15, go_sem, q0, q1, q2]) rfl ?_
  obtain ⟨zs', h1, h2, h3, h4⟩ := close_mx0 (x := .int .i64 0) (y := .int .i64 0) (z := .slice sA sn sc) HZ.out HL.out HO.out HB2.out (Nat.le_succ _)
  exact ⟨_, zs', rfl, h1, h2, h3, h4⟩
set_option maxHeartbeats 1000000 in
theorem U_no {v : Value} (w : World) (h : NoneV w v) : Calls Try.prog 16 #[v] w (RetMx 0 0 [] w) := by
  obtain ⟨p0, hrow, hb0⟩ := frameP (w := w) (v := v) (t := 39) (o := zrow)
  have HRow := Lib.hid hrow
  have HB0 := Lib.hid hb0
  have HNo := Lib.hid h
  have hmf : ∀ (fn : Fn) (first cap : Array Value) (W : World), (Instr.makeFunc fn first cap).run Try.prog W = .ok (.func fn first cap) W := fun _ _ _ _ => rfl
  clear hrow hb0 h
  have hv : ∃ a, v = .pointer a := by
    rcases HNo.out with h | ⟨b, h, _⟩
    · exact ⟨_, h⟩
    · exact ⟨_, h⟩
  obtain ⟨a, rfl⟩ := hv
  go_enter Try.func16, Try.ntmps16
  go_wp2_with fail
  refine (part_c 0 (Nat.zero_le _) (.pointer a) 46 #[.pointer (some ⟨w.heap.size, 0, none⟩)] (fun _ _ => (0, 0)) _ ?_ U_enters ?_).mono ?_
  · intro W hW
    exact Size_no W ((HNo.out.below HB0.out).below hW)
  · intro i j W hi
    omega
  rintro e W2 ⟨s, zs, rfl, hz, hlz, hown, hb2⟩
  obtain ⟨r0, r1, r2, fr⟩ := box3 ((hb2.block (w.heap.size + 1) (by simp)).trans HRow.out)
  have f0 := fr 0
  have f1 := fr 1
  have f2 := fr 2
  obtain ⟨sA, sn, sc, rfl, -⟩ := slice_of_own hown
  have HZ := Lib.hid hz
  have HL := Lib.hid hlz
  have HO := Lib.hid (own_base hown (show w.heap.size + 1 + 1 ≤ _ by simp))
  have HB2 := Lib.hid (HB0.out.trans (hb2.mono HB0.out.size))
  clear hz hlz hown hb2 fr p0
  go_wp2
  obtain ⟨q0, q1, q2⟩ := set3 (u := .int .i64 0) (v := .int .i64 0) (t := .slice sA sn sc) r0 r1 r2
  refine bodyPost_ret (v := mval 0 0 (.slice sA sn sc)) (by simp [results, Try.results16, go_sem, q0, q1, q2]) rfl ?_
  obtain ⟨zs', h1, h2, h3, h4⟩ := close_mx0 (x := .int .i64 0) (y := .int .i64 0) (z := .slice sA sn sc) HZ.out HL.out HO.out HB2.out (Nat.le_succ _)
  exact ⟨_, zs', rfl, h1, h2, h3, h4⟩
theorem refused_t {er pl : Int} (r c : Int) (A : Option Addr) (l : List C) (cap : Nat) (w : World) (hf : ofF r c l = (er, pl)) (he : er ≠ 0) (hcap : l.length ≤ cap) (hrd : Reads w w.heap.size A (nums l)) (hlt : ltCs l) :
    Calls Try.prog 32 #[mval r c (.slice A l.length cap), .int .i64 er, .int .i64 pl] w (RetBB true w) := by
  have hb0 := below_new w (.cells #[.int .i64 r, .int .i64 c, .slice A l.length cap] 26)
  have HOf := Lib.hid (show Calls Try.prog 13 #[mval r c (.slice A l.length cap)] _ fun e w' => e = .returned (.tuple #[.pointer none, .agg #[.int .i64 er, .int .i64 pl]]) ∧ Below _ _ w' from
    (Of_c r c A l cap _ hcap ((hrd.below hb0).more hb0.size) hlt).mono fun e w' h => by rw [hf] at h; exact h.bad he)
  have HB0 := Lib.hid hb0
  clear hf he hcap hrd hlt hb0
  go_enter Try.func32, Try.ntmps32
  go_wp2_with fail
  refine HOf.out.mono ?_
  rintro e W2 ⟨rfl, hb⟩
  have HB := Lib.hid (HB0.out.trans (hb.mono HB0.out.size))
  clear hb
  go_wp2
  go_ret
  exact ⟨rfl, HB.out.new (Nat.le_refl _) _⟩
end Go.Proofs.Ytibjkmjccelcaaa
