/- Layer 7: sums and differences, entry by entry. -/
import Derived.Test.YtdkcdcbbpebgmaaMX9
namespace Go.Proofs.Ytdkcdcbbpebgmaa
open Go.RowKit Fl Ieee
set_option maxRecDepth 20000
attribute [local go_sem] run_store_float run_store_complex
set_option maxHeartbeats 2000000 in
theorem bothE_c (G : FuncId) (op : C → C → C) (hG : ∀ (args : Array Value) (W : World), (callFunc G args).run Try.prog W = .ok (.enter G args) W)
    (hop : ∀ (p q : C) (V : World), Calls Try.prog G #[.complex .f64 p.1 p.2, .complex .f64 q.1 q.2] V (RetC (op (cnC p) (cnC q)) V))
    (bf ba bb rows cols : Nat) (A B : Option Addr) (la lb : List C) (capa capb i j : Nat) (W : World) (hf : W.cell? ⟨bf, 0, none⟩ = some (.func (.func G) #[] #[]))
    (hboxa : Box W ba rows cols (.slice A la.length capa)) (hboxb : Box W bb rows cols (.slice B lb.length capb))
    (hbf : bf < W.heap.size) (hba : ba < W.heap.size) (hbb : bb < W.heap.size) (hla : la.length = rows * cols) (hlb : lb.length = rows * cols) (hra : rows ≤ 64) (hca : cols ≤ 64) (hi : i < rows) (hj : j < cols)
    (hA : Reads W W.heap.size A (nums la)) (hB : Reads W W.heap.size B (nums lb)) :
    Calls Try.prog 97 #[.int .i64 (i : Nat), .int .i64 (j : Nat), .pointer (some ⟨bf, 0, none⟩), .pointer (some ⟨ba, 0, none⟩), .pointer (some ⟨bb, 0, none⟩)] W (RetZ (op (ent la cols i j) (ent lb cols i j)) W) := by
  have HA : ∀ V : World, Below W.heap.size W V → Calls Try.prog 64 #[mval rows cols (.slice A la.length capa), .int .i64 (i : Nat), .int .i64 (j : Nat)] V (FromV (.complex .f64 (la.getD (i * cols + j) (0, 0)).1 (la.getD (i * cols + j) (0, 0)).2) W.heap.size W) := fun V hV =>
    from_v (at_e rows cols A la capa i j V hla hra hca hi hj ((hA.below hV).more hV.size)) hV (Nat.le_refl _)
  have HB : ∀ V : World, Below W.heap.size W V → Calls Try.prog 64 #[mval rows cols (.slice B lb.length capb), .int .i64 (i : Nat), .int .i64 (j : Nat)] V (FromV (.complex .f64 (lb.getD (i * cols + j) (0, 0)).1 (lb.getD (i * cols + j) (0, 0)).2) W.heap.size W) := fun V hV =>
    from_v (at_e rows cols B lb capb i j V hlb hra hca hi hj ((hB.below hV).more hV.size)) hV (Nat.le_refl _)
  have KA := Lib.hid HA
  have KB := Lib.hid HB
  have XA := Lib.hid hboxa
  have XB := Lib.hid hboxb
  have XF := Lib.hid hf
  have HOP := Lib.hid hop
  obtain ⟨a0, a1, a2⟩ := hboxa
  obtain ⟨b0, b1, b2⟩ := hboxb
  have hbd : Below W.heap.size W W.drew := (Below.refl _ W).drew
  clear HA HB hla hlb hra hca hi hj hA hB hop
  go_enter Try.func97, Try.ntmps97
  go_wp2
  go_region_law (first
    | (go_simp; go_at_call 64; (with_reducible refine (KA.out _ ?_).mono ?_); assumption; (rintro e V ⟨rfl, hV⟩); have uf := (hV.cell (p := ⟨bf, 0, none⟩) hbf).trans XF.out; have u0 := Box.below XA.out hV hba; have u1 := Box.below XB.out hV hbb; obtain ⟨u00, u01, u02⟩ := u0; obtain ⟨u10, u11, u12⟩ := u1)
    | (go_simp; go_at_call 64; (with_reducible refine (KB.out _ ?_).mono ?_); assumption; (rintro e V ⟨rfl, hV⟩); have uf := (hV.cell (p := ⟨bf, 0, none⟩) hbf).trans XF.out; have u0 := Box.below XA.out hV hba; have u1 := Box.below XB.out hV hbb; obtain ⟨u00, u01, u02⟩ := u0; obtain ⟨u10, u11, u12⟩ := u1)
    | (go_simp; refine (from_c (B := W.heap.size) (w := W) (HOP.out (_, _) (_, _) _) ?_).mono ?_; assumption; (rintro e V ⟨x, rfl, hx, lx, hV⟩)))
  all_goals
    have hs : cnC x = op (ent la cols i j) (ent lb cols i j) := by
      rw [hx]
      unfold ent
      rw [List.getD_eq_getElem?_getD, List.getD_eq_getElem?_getD]
      rfl
    have HSS := Lib.hid hs
    have HVV := Lib.hid hV
    have HLX := Lib.hid lx
    clear hs hV lx hx
    go_wp2
    go_ret
    exact ⟨x, rfl, HSS.out, HLX.out, HVV.out⟩
theorem both_enters (args : Array Value) (W : World) : (callFunc 97 args).run Try.prog W = .ok (.enter 97 args) W :=
  enters_of Try.func97 (by kernel_rfl) rfl args W
end Go.Proofs.Ytdkcdcbbpebgmaa
