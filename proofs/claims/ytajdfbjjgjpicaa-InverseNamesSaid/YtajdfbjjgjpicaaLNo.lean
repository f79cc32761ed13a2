/- Layer 9: what is told of none; what is refused. -/
import Derived.Test.YtajdfbjjgjpicaaKT2
namespace Go.Proofs.Ytajdfbjjgjpicaa
open Go.RowKit Fl Ieee
set_option maxRecDepth 20000
attribute [local go_sem] run_store_float run_store_complex
theorem RetMx.liesM {w w' : World} {r c M : Nat} {l : List C} {e : Ending} (h : RetMx r c l w e w') (hM : l.length = M) : ∃ A zs cap, e = .returned (mval r c (.slice A M cap)) ∧ zs.length = M ∧ zs.map cnC = l ∧ Reads w' w'.heap.size A (nums zs) ∧ Below w.heap.size w w' := by
  obtain ⟨A, zs, cap, rfl, hz, hlz, h1, -, -, -, hb⟩ := h.lies
  have e : zs.length = M := by rw [← hM, ← hz, List.length_map]
  exact ⟨A, zs, cap, by rw [e], e, hz, h1, hb⟩
theorem RetMs.liesM {w w' : World} {r c : Int} {M : Nat} {l : List C} {e : Ending} (h : RetMs r c l w e w') (hM : l.length = M) : ∃ A cap, e = .returned (mval r c (.slice A M cap)) ∧ Reads w' w'.heap.size A (nums l) ∧ M ≤ cap ∧ Below w.heap.size w w' := by
  obtain ⟨A, cap, rfl, h1, h2, -, -, hb⟩ := h.lies
  exact ⟨A, cap, by rw [hM], h1, by omega, hb⟩
structure NW (w W : World) (n B b : Nat) (S : El) : Prop where
  x : Has9 W B b n S
  bel : Below w.heap.size w W
theorem NW.below {w W V : World} {n B b : Nat} {S : El} (h : NW w W n B b S) (hb : Below W.heap.size W V) : NW w V n B b S := ⟨h.x.below hb, h.bel.trans (hb.mono h.bel.size)⟩
theorem NW.drewN {w W : World} {n B b : Nat} {S : El} (h : NW w W n B b S) (d : Nat) : NW w (W.drewN d) n B b S := h.below (below_drewN (Below.refl _ _) d)
theorem NW.new {w W : World} {n B b : Nat} {S : El} (h : NW w W n B b S) (o : Obj) : NW w (W.alloc o) n B b S := h.below (below_new W o)
/-- No elimination: nil, or one that nobody made. -/
def NoneV (W : World) (v : Value) : Prop := v = .pointer none ∨ ∃ b, v = .pointer (some ⟨b, 0, none⟩) ∧ b < W.heap.size ∧ W.cell? ⟨b, 0, none⟩ = some (.bool false)
theorem NoneV.below {W V : World} {v : Value} (h : NoneV W v) (hb : Below W.heap.size W V) : NoneV V v := by
  rcases h with h | ⟨b, h1, h2, h3⟩
  · exact .inl h
  · exact .inr ⟨b, h1, Nat.lt_of_lt_of_le h2 hb.size, (hb.cell (p := ⟨b, 0, none⟩) h2).trans h3⟩
theorem is9_no {v : Value} (W : World) (h : NoneV W v) : Calls Try.prog 83 #[v] W (RetP (.bool false) W) := by
  rcases h with rfl | ⟨b, rfl, _, h3⟩
  · exact is9_nil W
  · exact is9_f W h3
theorem Size_no {v : Value} (W : World) (h : NoneV W v) : Calls Try.prog 48 #[v] W (RetP (.int .i64 0) W) := by
  have HI := Lib.hid (is9_no W h)
  clear h
  go_enter Try.func48, Try.ntmps48
  go_wp2_with fail
  refine HI.out.mono ?_
  rintro e w' ⟨rfl, rfl⟩
  go_wp2
  go_ret; exact ⟨rfl, rfl⟩
theorem Sign_no {v : Value} (W : World) (h : NoneV W v) : Calls Try.prog 111 #[v] W (RetP (.int .i64 0) W) := by
  have HI := Lib.hid (is9_no W h)
  clear h
  go_enter Try.func111, Try.ntmps111
  go_wp2_with fail
  refine HI.out.mono ?_
  rintro e w' ⟨rfl, rfl⟩
  go_wp2
  go_ret; exact ⟨rfl, rfl⟩
theorem Order_no {v : Value} (W : World) (h : NoneV W v) : Calls Try.prog 114 #[v] W (RetP (.slice none 0 0) W) := by
  have HI := Lib.hid (is9_no W h)
  clear h
  go_enter Try.func114, Try.ntmps114
  go_wp2_with fail
  refine HI.out.mono ?_
  rintro e w' ⟨rfl, rfl⟩
  go_wp2
  go_ret; exact ⟨rfl, rfl⟩
set_option maxHeartbeats 1000000 in
theorem L_no {v : Value} (w : World) (h : NoneV w v) : Calls Try.prog 112 #[v] w (RetMx 0 0 [] w) := by
  obtain ⟨p0, hrow, hb0⟩ := frameP (w := w) (v := v) (t := 75) (o := zrow)
  have HRow := Lib.hid hrow
  have HB0 := Lib.hid hb0
  have HNo := Lib.hid h
  have hmf : ∀ (fn : Fn) (first cap : Array Value) (W : World), (Instr.makeFunc fn first cap).run Try.prog W = .ok (.func fn first cap) W := fun _ _ _ _ => rfl
  have hbox : (Op.box 75 (.tmp 0)) = (Op.box 75 (.tmp 0)) := rfl
  clear hrow hb0 h hbox
  have hv : ∃ a, v = .pointer a := by
    rcases HNo.out with h | ⟨b, h, _⟩
    · exact ⟨_, h⟩
    · exact ⟨_, h⟩
  obtain ⟨a, rfl⟩ := hv
  go_enter Try.func112, Try.ntmps112
  go_wp2_with fail
  refine (part_c 0 (Nat.zero_le _) (.pointer a) 120 #[.pointer (some ⟨w.heap.size, 0, none⟩)] (fun _ _ => (0, 0)) _ ?_ L_enters ?_).mono ?_
  · intro W hW
    exact Size_no W ((HNo.out.below HB0.out).below hW)
  · intro i j W hi
    omega
  rintro e W2 ⟨s, zs, rfl, hz, hlz, hown, hb2⟩
  obtain ⟨r0, r1, r2, fr⟩ := box3 ((hb2.block (w.heap.size + 1) (by simp)).trans HRow.out)
  have f0 := fr 0
  have f1 := fr 1
  have f2 := fr 2
  obtain ⟨sA, sn, sc, rfl, -⟩ := slice_of_own hown
  have HZ := Lib.hid hz
  have HL := Lib.hid hlz
  have HO := Lib.hid (own_base hown (show w.heap.size + 1 + 1 ≤ _ by simp))
  have HB2 := Lib.hid (HB0.out.trans (hb2.mono HB0.out.size))
  clear hz hlz hown hb2 fr p0
  go_wp2
  obtain ⟨q0, q1, q2⟩ := set3 (u := .int .i64 0) (v := .int .i64 0) (t := .slice sA sn sc) r0 r1 r2
  refine bodyPost_ret (v := mval 0 0 (.slice sA sn sc)) (by simp [results, Try.results112, go_sem, q0, q1, q2]) rfl ?_
  obtain ⟨zs', h1, h2, h3, h4⟩ := close_mx0 (x := .int .i64 0) (y := .int .i64 0) (z := .slice sA sn sc) HZ.out HL.out HO.out HB2.out (Nat.le_succ _)
  exact ⟨_, zs', rfl, h1, h2, h3, h4⟩
set_option maxHeartbeats 1000000 in
theorem U_no {v : Value} (w : World) (h : NoneV w v) : Calls Try.prog 113 #[v] w (RetMx 0 0 [] w) := by
  obtain ⟨p0, hrow, hb0⟩ := frameP (w := w) (v := v) (t := 75) (o := zrow)
  have HRow := Lib.hid hrow
  have HB0 := Lib.hid hb0
  have HNo := Lib.hid h
  have hmf : ∀ (fn : Fn) (first cap : Array Value) (W : World), (Instr.makeFunc fn first cap).run Try.prog W = .ok (.func fn first cap) W := fun _ _ _ _ => rfl
  clear hrow hb0 h
  have hv : ∃ a, v = .pointer a := by
    rcases HNo.out with h | ⟨b, h, _⟩
    · exact ⟨_, h⟩
    · exact ⟨_, h⟩
  obtain ⟨a, rfl⟩ := hv
  go_enter Try.func113, Try.ntmps113
  go_wp2_with fail
  refine (part_c 0 (Nat.zero_le _) (.pointer a) 121 #[.pointer (some ⟨w.heap.size, 0, none⟩)] (fun _ _ => (0, 0)) _ ?_ U_enters ?_).mono ?_
  · intro W hW
    exact Size_no W ((HNo.out.below HB0.out).below hW)
  · intro i j W hi
    omega
  rintro e W2 ⟨s, zs, rfl, hz, hlz, hown, hb2⟩
  obtain ⟨r0, r1, r2, fr⟩ := box3 ((hb2.block (w.heap.size + 1) (by simp)).trans HRow.out)
  have f0 := fr 0
  have f1 := fr 1
  have f2 := fr 2
  obtain ⟨sA, sn, sc, rfl, -⟩ := slice_of_own hown
  have HZ := Lib.hid hz
  have HL := Lib.hid hlz
  have HO := Lib.hid (own_base hown (show w.heap.size + 1 + 1 ≤ _ by simp))
  have HB2 := Lib.hid (HB0.out.trans (hb2.mono HB0.out.size))
  clear hz hlz hown hb2 fr p0
  go_wp2
  obtain ⟨q0, q1, q2⟩ := set3 (u := .int .i64 0) (v := .int .i64 0) (t := .slice sA sn sc) r0 r1 r2
  refine bodyPost_ret (v := mval 0 0 (.slice sA sn sc)) (by simp [results, Try.results113, go_sem, q0, q1, q2]) rfl ?_
  obtain ⟨zs', h1, h2, h3, h4⟩ := close_mx0 (x := .int .i64 0) (y := .int .i64 0) (z := .slice sA sn sc) HZ.out HL.out HO.out HB2.out (Nat.le_succ _)
  exact ⟨_, zs', rfl, h1, h2, h3, h4⟩
end Go.Proofs.Ytajdfbjjgjpicaa
