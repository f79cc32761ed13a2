/- Layer 9's small words: a matrix of two rows, the first example. -/
import Derived.Test.YtajdfbjjgjpicaaKT1
import Derived.Test.YtajdfbjjgjpicaaLW4
namespace Go.Proofs.Ytajdfbjjgjpicaa
open Go.RowKit Fl Ieee
set_option maxRecDepth 20000
attribute [local go_sem] run_store_float run_store_complex
theorem own_new {w : World} {o : Obj} {l : List C} (hl : l.length ≤ maxLen) : ((w.alloc o).alloc (.cells (nums l).toArray 53)).ownsRow w.heap.size 53 1 (.slice (some ⟨w.heap.size + 1, 0, none⟩) l.length l.length) l.length (nums l) :=
  ⟨by simp [nums], .inr ⟨_, l.length, (nums l).toArray, rfl, Nat.le_succ _, row_new2 _ _ _, Nat.le_refl _, hl, by simp [nums], by simp [nums]; exact List.take_of_length_le (by simp)⟩⟩
/-- A list as it is told: where it lies, that it reads. -/
theorem RetMs.lies {w w' : World} {r c : Int} {l : List C} {e : Ending} (h : RetMs r c l w e w') : ∃ A cap, e = .returned (mval r c (.slice A l.length cap)) ∧ Reads w' w'.heap.size A (nums l) ∧ l.length ≤ cap ∧ (A = none → cap = 0) ∧ w'.ownsRow w.heap.size 53 1 (.slice A l.length cap) l.length (nums l) ∧ Below w.heap.size w w' := by
  obtain ⟨s, rfl, hown, hb⟩ := h
  obtain ⟨A, cap, rfl, h1, h2, h3⟩ := own_reads hown
  exact ⟨A, cap, rfl, h1, h2, h3, hown, hb⟩
theorem RetMx.lies {w w' : World} {r c : Nat} {l : List C} {e : Ending} (h : RetMx r c l w e w') : ∃ A zs cap, e = .returned (mval r c (.slice A zs.length cap)) ∧ zs.map cnC = l ∧ ltCs zs ∧ Reads w' w'.heap.size A (nums zs) ∧ zs.length ≤ cap ∧ (A = none → cap = 0) ∧ w'.ownsRow w.heap.size 53 1 (.slice A zs.length cap) zs.length (nums zs) ∧ Below w.heap.size w w' := by
  obtain ⟨s, zs, rfl, hz, hlz, hown, hb⟩ := h
  have e : l.length = zs.length := by rw [← hz, List.length_map]
  rw [e] at hown
  obtain ⟨A, cap, rfl, h1, h2, h3⟩ := own_reads hown
  exact ⟨A, zs, cap, rfl, hz, hlz, h1, h2, h3, hown, hb⟩
theorem RetO.lies {w w' : World} {n : Nat} {o : Nat → Nat} {e : Ending} (h : RetO n o w e w') : ∃ A cap, e = .returned (.slice A n cap) ∧ Reads w' w'.heap.size A (intsV ((List.range n).map fun i => ((o i : Nat) : Int))) ∧ w'.ownsRow w.heap.size 3 1 (.slice A n cap) n ((List.range n).map fun i => .int .i64 (o i : Nat)) ∧ Below w.heap.size w w' := by
  obtain ⟨s, rfl, hown, hb⟩ := h
  obtain ⟨A, m, cap, rfl, rfl⟩ := slice_of_own hown
  refine ⟨A, cap, rfl, ?_, hown, hb⟩
  have h1 := Reads.of_own hown
  have e : intsV ((List.range m).map fun i => ((o i : Nat) : Int)) = (List.range m).map fun i => Value.int .i64 (o i : Nat) := by simp [intsV, Function.comp_def]
  rw [e]; exact h1
/-- Of: it went well. -/
theorem RetOf.ok {n : Nat} {f : Int × Int} {S : El} {w w' : World} {e : Ending} (h : RetOf f n S w e w') (hf : f = (0, 0)) : ∃ b, e = .returned (.tuple #[.pointer (some ⟨b, 0, none⟩), .agg #[.int .i64 0, .int .i64 0]]) ∧ Has9 w' w.heap.size b n S ∧ Below w.heap.size w w' := by
  subst hf
  obtain ⟨v, rfl, hb, h1, -⟩ := h
  obtain ⟨-, b, rfl, h9⟩ := h1 rfl
  exact ⟨b, rfl, h9, hb⟩
/-- Of: it was refused. -/
theorem RetOf.bad {n : Nat} {f : Int × Int} {S : El} {w w' : World} {e : Ending} (h : RetOf f n S w e w') (hf : f.1 ≠ 0) : e = .returned (.tuple #[.pointer none, .agg #[.int .i64 f.1, .int .i64 f.2]]) ∧ Below w.heap.size w w' := by
  obtain ⟨v, rfl, hb, -, h1⟩ := h
  rw [h1 hf]
  exact ⟨rfl, hb⟩
theorem cnC_idem {x y : C} (h : y = cnC x) : cnC y = y := by rw [h, cnC_cnC]
/-- The first example. -/
def exA : List C := [(0, fone), (fone, 0), (fone, 0), (0, 0)]
theorem exA_f : ofF 2 2 exA = (0, 0) := by decide +kernel
theorem exA_o : ((List.range 2).map fun i => (((ofS 2 exA).o i : Nat) : Int)) = [0, 1] := by decide +kernel
theorem exA_s : sgI (ofS 2 exA).s = 1 := by decide +kernel
theorem exA_u : entries 2 (uppE (ofS 2 exA)) 4 = [(0, fone), (fone, 0), (0, 0), (0, fone)] := by decide +kernel
theorem exA_fin : ∀ z ∈ exA, pFinite z = true := by decide +kernel
theorem exA_lt : ltCs exA := by intro z hz; simp [exA] at hz; rcases hz with rfl | rfl | rfl | rfl <;> exact ⟨by decide, by decide⟩
theorem exA_fin' : finTo (ofS 2 exA).E 2 := elRun_fin (matE_fin (l := exA) (n := 2) rfl exA_fin) 2 (Nat.le_refl _)
end Go.Proofs.Ytajdfbjjgjpicaa
