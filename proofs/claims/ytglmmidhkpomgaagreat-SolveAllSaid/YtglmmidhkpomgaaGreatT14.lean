/- Layer 10: a right side that is refused. -/
import Derived.Test.YtglmmidhkpomgaaGreatT12
namespace Go.Proofs.YtglmmidhkpomgaaGreat
open Go.RowKit Fl Ieee
set_option maxRecDepth 20000
attribute [local go_sem] run_store_float run_store_complex Fl.order_self Fl.order_self' Fl.order_eq Fl.order_ne Fl.order_lt Fl.order_gt
theorem Solve_bad {B b n : Nat} {S : El} (Ab : Option Addr) (bl : List C) (cap : Nat) (w : World) (h : Has9 w B b n S) (hf : finTo S.E n) (hn : n ≤ 64) (hl : bl.length ≤ 4611686018427387904) (hlt : ltCs bl) (hrd : Reads w w.heap.size Ab (nums bl)) (hE : bErr n bl ≠ 0) :
    Calls Tryz.prog 24 #[.pointer (some ⟨b, 0, none⟩), .slice Ab bl.length cap] w fun e w' => e = .returned (.tuple #[.slice none 0 0, .int .i64 (bErr n bl)]) ∧ Below w.heap.size w w' := by
  have HOp := Lib.hid (open_c w h hf hn)
  obtain ⟨er, her⟩ : ∃ er, er = bErr n bl := ⟨_, rfl⟩
  have HWr := Lib.hid (fun (x1 x2 x3 : Value) (V : World) (h2 : Reads V V.heap.size Ab (nums bl)) => (show Calls Tryz.prog 56 #[.agg #[.int .i64 (n : Nat), x1, x2, x3], .slice Ab bl.length cap] V (RetV (.int .i64 er) V) from by
    rw [her]; exact wrong_c n x1 x2 x3 Ab bl cap V hlt hl hn h2))
  rw [← her] at hE ⊢
  have hne : (er == 0) = false := by simpa using hE
  have HRd := Lib.hid hrd
  clear h hf hn hl hlt hrd her hE
  go_enter Tryz.func24, Tryz.ntmps24
  go_wp2_with fail
  refine HOp.out.mono ?_
  rintro e W1 ⟨Al, kl, Au, ku, Ao, ko, rfl, -, -, -, hb⟩
  obtain ⟨M, hM⟩ : ∃ M, M = n * n := ⟨_, rfl⟩
  rw [← hM]
  have hbn := below_new W1 (.cells #[.int .i64 (n : Nat), .slice Al M kl, .slice Au M ku, .slice Ao n ko] 69)
  have B1 := Lib.hid (hb.trans (hbn.mono hb.size))
  have HRb := Lib.hid ((((HRd.out.below hb).more hb.size).below hbn).more hbn.size)
  clear hb hbn hM HOp
  go_wp2_with fail
  refine (HWr.out _ _ _ _ HRb.out).mono ?_
  rintro e W0 ⟨rfl, hb⟩
  have B0 := Lib.hid (B1.out.trans (hb.mono B1.out.size))
  clear hb HWr
  go_wp2
  go_ret2
  exact ⟨rfl, B0.out⟩
theorem Trans_bad {B b n : Nat} {S : El} (Ab : Option Addr) (bl : List C) (cap : Nat) (w : World) (h : Has9 w B b n S) (hf : finTo S.E n) (hn : n ≤ 64) (hl : bl.length ≤ 4611686018427387904) (hlt : ltCs bl) (hrd : Reads w w.heap.size Ab (nums bl)) (hE : bErr n bl ≠ 0) :
    Calls Tryz.prog 25 #[.pointer (some ⟨b, 0, none⟩), .slice Ab bl.length cap] w fun e w' => e = .returned (.tuple #[.slice none 0 0, .int .i64 (bErr n bl)]) ∧ Below w.heap.size w w' := by
  have HOp := Lib.hid (open_c w h hf hn)
  obtain ⟨er, her⟩ : ∃ er, er = bErr n bl := ⟨_, rfl⟩
  have HWr := Lib.hid (fun (x1 x2 x3 : Value) (V : World) (h2 : Reads V V.heap.size Ab (nums bl)) => (show Calls Tryz.prog 56 #[.agg #[.int .i64 (n : Nat), x1, x2, x3], .slice Ab bl.length cap] V (RetV (.int .i64 er) V) from by
    rw [her]; exact wrong_c n x1 x2 x3 Ab bl cap V hlt hl hn h2))
  rw [← her] at hE ⊢
  have hne : (er == 0) = false := by simpa using hE
  have HRd := Lib.hid hrd
  clear h hf hn hl hlt hrd her hE
  go_enter Tryz.func25, Tryz.ntmps25
  go_wp2_with fail
  refine HOp.out.mono ?_
  rintro e W1 ⟨Al, kl, Au, ku, Ao, ko, rfl, -, -, -, hb⟩
  obtain ⟨M, hM⟩ : ∃ M, M = n * n := ⟨_, rfl⟩
  rw [← hM]
  have hbn := below_new W1 (.cells #[.int .i64 (n : Nat), .slice Al M kl, .slice Au M ku, .slice Ao n ko] 69)
  have B1 := Lib.hid (hb.trans (hbn.mono hb.size))
  have HRb := Lib.hid ((((HRd.out.below hb).more hb.size).below hbn).more hbn.size)
  clear hb hbn hM HOp
  go_wp2_with fail
  refine (HWr.out _ _ _ _ HRb.out).mono ?_
  rintro e W0 ⟨rfl, hb⟩
  have B0 := Lib.hid (B1.out.trans (hb.mono B1.out.size))
  clear hb HWr
  go_wp2
  go_ret2
  exact ⟨rfl, B0.out⟩
end Go.Proofs.YtglmmidhkpomgaaGreat
