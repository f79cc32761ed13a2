/- Layer 10, SolveMirrors: whatever the right side; both sides of the mirror. -/
import Derived.Test.YtglmmidhkpomgaaGreatT18
namespace Go.Proofs.YtglmmidhkpomgaaGreat
open Go.RowKit Fl Ieee
set_option maxRecDepth 20000
attribute [local go_sem] run_store_float run_store_complex Fl.order_self Fl.order_self' Fl.order_eq Fl.order_ne Fl.order_lt Fl.order_gt
/-- What is told of any right side. -/
def mErr (ok : Bool) (n : Nat) (bl : List C) : Int := if bErr n bl = 0 then (if ok then 0 else 6) else bErr n bl
def mLst (ok : Bool) (n : Nat) (bl L : List C) : List C := if bErr n bl = 0 then (if ok then L else []) else []
theorem bErr_ok {n : Nat} {bl : List C} (hE : bErr n bl = 0) : bl.length = n ∧ ∀ z ∈ bl, pFinite z = true := by
  by_cases h : bl.length = n
  · refine ⟨h, ?_⟩
    unfold bErr at hE
    rw [if_pos h] at hE
    by_cases hb : badAt bl < bl.length
    · rw [if_pos hb] at hE; cases hE
    · exact badAt_all hb
  · unfold bErr at hE; rw [if_neg h] at hE; cases hE
theorem Solve_all {B b n : Nat} {S : El} (Ab : Option Addr) (bl : List C) (cap : Nat) (w : World) (h : Has9 w B b n S) (hf : finTo S.E n) (hp : Perm n S.o) (hn : n ≤ 64) (hl : bl.length ≤ 4611686018427387904) (hlt : ltCs bl) (hrd : Reads w w.heap.size Ab (nums bl)) :
    Calls Tryz.prog 24 #[.pointer (some ⟨b, 0, none⟩), .slice Ab bl.length cap] w (RetSol (mErr (solOk n S bl) n bl) (mLst (solOk n S bl) n bl (solL n S bl)) w) := by
  unfold mErr mLst
  by_cases hE : bErr n bl = 0
  · rw [if_pos hE, if_pos hE]
    obtain ⟨h1, h2⟩ := bErr_ok hE
    exact Solve_run Ab bl cap w h hf hp hn h1 h2 hlt hrd
  · rw [if_neg hE, if_neg hE]
    refine (Solve_bad Ab bl cap w h hf hn hl hlt hrd hE).mono ?_
    rintro e w' ⟨rfl, hb⟩
    exact ⟨_, rfl, World.ownsRow_nil _ _ _ _, hb⟩
theorem Trans_all {B b n : Nat} {S : El} (Ab : Option Addr) (bl : List C) (cap : Nat) (w : World) (h : Has9 w B b n S) (hf : finTo S.E n) (hp : Perm n S.o) (hn : n ≤ 64) (hl : bl.length ≤ 4611686018427387904) (hlt : ltCs bl) (hrd : Reads w w.heap.size Ab (nums bl)) :
    Calls Tryz.prog 25 #[.pointer (some ⟨b, 0, none⟩), .slice Ab bl.length cap] w (RetSol (mErr (traOk n S bl) n bl) (mLst (traOk n S bl) n bl (traL n S bl)) w) := by
  unfold mErr mLst
  by_cases hE : bErr n bl = 0
  · rw [if_pos hE, if_pos hE]
    obtain ⟨h1, h2⟩ := bErr_ok hE
    exact Trans_run Ab bl cap w h hf hp hn h1 h2 hlt hrd
  · rw [if_neg hE, if_neg hE]
    refine (Trans_bad Ab bl cap w h hf hn hl hlt hrd hE).mono ?_
    rintro e w' ⟨rfl, hb⟩
    exact ⟨_, rfl, World.ownsRow_nil _ _ _ _, hb⟩
end Go.Proofs.YtglmmidhkpomgaaGreat
