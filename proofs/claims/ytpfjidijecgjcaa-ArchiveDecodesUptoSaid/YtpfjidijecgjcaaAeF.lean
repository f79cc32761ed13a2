/- Layer 31: what Decode tells, and where it lies. -/
import Derived.Test.YtpfjidijecgjcaaAdF
import Derived.Test.YtpfjidijecgjcaaAdH
import Derived.Deep.DeepCutAuto
namespace Go.Proofs.Ytpfjidijecgjcaa
open Go.RowKit Fl Ieee
set_option maxRecDepth 20000
/-- The solutions that bytes are. -/
def Good (p : List Nat) (acc : List SolW) : Prop := decS (takeS 2 (p, false)).1 [] (takeS 2 (p, false)).2 = (acc, 0, ([], false)) ∧ acc.length ≤ 4096 ∧ ∀ a ∈ acc, OkW a
theorem Good.same {p : List Nat} {a b : List SolW} (h : Good p a) (h' : Good p b) : a = b := by
  have := h.1.symm.trans h'.1
  injection this
theorem Good.enc {p : List Nat} {a : List SolW} (h : Good p a) (hb : okB p) : encS a = p := back_same hb h.1 rfl
/-- Two lists lie apart. -/
def Aprt (S S' : Value) : Prop := ∀ b, S.ownBlock = some b → S'.ownBlock ≠ some b
def listsV (L : List SolV) : List Value := L.flatMap fun q => [q.x1, q.x2]
theorem listsV_snoc (L : List SolV) (q : SolV) : listsV (L ++ [q]) = listsV L ++ [q.x1, q.x2] := by unfold listsV; rw [List.flatMap_append]; simp
theorem listsV_mem {L : List SolV} {S : Value} (h : S ∈ listsV L) : ∃ q ∈ L, S = q.x1 ∨ S = q.x2 := by
  unfold listsV at h
  obtain ⟨q, hq, h⟩ := List.mem_flatMap.1 h
  exact ⟨q, hq, by simpa using h⟩
theorem listsV_lt {w : World} {B : Nat} {L : List SolV} (h : ∀ q ∈ L, OwnV w B q) {S : Value} (hS : S ∈ listsV L) {b : Nat} (hb : S.ownBlock = some b) : B ≤ b ∧ b < w.heap.size := by
  obtain ⟨q, hq, rfl | rfl⟩ := listsV_mem hS
  · exact (h q hq).o1.lt b hb
  · exact (h q hq).o2.lt b hb
theorem apt_snoc {L : List SolV} {q : SolV} (h : (listsV L).Pairwise Aprt) (h1 : ∀ S ∈ listsV L, Aprt S q.x1) (h2 : ∀ S ∈ listsV L, Aprt S q.x2) (h3 : Aprt q.x1 q.x2) : (listsV (L ++ [q])).Pairwise Aprt := by
  rw [listsV_snoc, List.pairwise_append]
  refine ⟨h, by simp [h3], fun a ha b hb => ?_⟩
  rcases List.mem_cons.1 hb with rfl | hb
  · exact h1 a ha
  · rw [List.mem_singleton.1 hb]; exact h2 a ha
/-- Solutions in rows of one's own, apart from each other. -/
structure SolsOwn (W : World) (B : Nat) (v : Value) (L : List SolV) : Prop where
  row : W.ownsRow B 39 3 v L.length (flatV L)
  own : ∀ q ∈ L, OwnV W B q
  apt : (listsV L).Pairwise Aprt
  same : ∀ q ∈ L, q.s = toM q.a
theorem SolsOwn.below {W V : World} {B : Nat} {v : Value} {L : List SolV} (h : SolsOwn W B v L) (hb : Below W.heap.size W V) : SolsOwn V B v L :=
  ⟨own_below h.row hb, fun q hq => ⟨own_below (h.own q hq).o1 hb, own_below (h.own q hq).o2 hb⟩, h.apt, h.same⟩
theorem map_same {L : List SolV} (h : ∀ q ∈ L, q.s = toM q.a) : L.map SolV.s = (L.map SolV.a).map toM := by
  rw [List.map_map]; exact List.map_congr_left h
theorem SolsOwn.at_ {W : World} {B : Nat} {v : Value} {L : List SolV} (h : SolsOwn W B v L) : SolsAt W W.heap.size v ((L.map SolV.a).map toM) := by
  rw [← map_same h.same]; exact SolsAt.of h.row h.own
/-- A number that is some finite number's, up to NaN, is it. -/
theorem num_of {z : C} {u : Nat} (h : cnC z = numW u) (hf : pFinite (numW u) = true) : z = numW u := by
  refine num_is h ?_
  rw [← h] at hf
  unfold pFinite at hf ⊢
  rw [Bool.and_eq_true] at hf ⊢
  have e1 := isFin_cn .f64 z.1
  have e2 := isFin_cn .f64 z.2
  exact ⟨(by have := hf.1; rw [← this]; exact e1.symm), (by have := hf.2; rw [← this]; exact e2.symm)⟩
theorem map_of {l : List C} {m : List Nat} (h : l.map cnC = m.map numW) (hf : ∀ u ∈ m, pFinite (numW u) = true) : l = m.map numW := by
  refine map_fin h fun z hz => ?_
  obtain ⟨u, hu, e⟩ := map_mem h hz
  rw [num_of e (hf u hu)]; exact hf u hu
theorem LikeV.good {q : SolV} (h : LikeV q) (ho : OkW q.a) : q.s = toM q.a := by
  have e1 := map_of h.vs (fun u hu => (ho.nv u hu).2)
  have e2 := map_of h.ys (fun u hu => (ho.na u hu).2)
  unfold toM
  rw [← e1, ← e2, ← h.om]
theorem wrong_good {L : List SolV} (h : ∀ q ∈ L, LikeV q) (ho : ∀ a ∈ L.map SolV.a, OkW a) : wrongV (L.map SolV.s) = 0 := by
  rw [map_same (fun q hq => (h q hq).good (ho _ (List.mem_map.2 ⟨q, hq, rfl⟩)))]
  exact wrong_ok ho
def RetDecD (p : List Nat) (w : World) (e : Ending) (w' : World) : Prop :=
  ∃ v er, e = .returned (.tuple #[v, .int .i64 er]) ∧ Below w.heap.size w w' ∧
    ((er = 410 ∧ v = .slice none 0 0 ∧ ∀ acc, ¬ Good p acc) ∨ (er = 0 ∧ ∃ L : List SolV, Good p (L.map SolV.a) ∧ SolsOwn w' (w.heap.size + 1) v L))
end Go.Proofs.Ytpfjidijecgjcaa
