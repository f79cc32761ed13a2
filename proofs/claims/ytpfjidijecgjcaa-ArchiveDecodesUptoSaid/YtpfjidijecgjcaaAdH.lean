/- Layer 31: (archive.Encode). -/
import Derived.Test.YtpfjidijecgjcaaAdF
import Derived.Deep.DeepCutAuto
namespace Go.Proofs.Ytpfjidijecgjcaa
open Go.RowKit Fl Ieee
set_option maxRecDepth 20000
attribute [local go_sem] run_store_float run_store_complex x_f64bits
/-- Bytes in a row of one's own. -/
def OwnB (w : World) (B : Nat) (v : Value) (L : List Nat) : Prop := w.ownsRow B 5 1 v L.length (bytesV L)
theorem laidB {B : Nat} {L : List Nat} (v : Value) (x n : Nat) (w : World) (hown : OwnB w B v L) (hm : L.length ≤ 1000000000) (hB : B ≤ w.heap.size) (hn : n ≤ 8) :
    Calls Try.prog 46 #[v, .int .u64 (x : Nat), .int .i64 (n : Nat)] w fun e w' => ∃ v', e = .returned v' ∧ OwnB w' B v' (L ++ beB n x) ∧ Below B w w' ∧ KeepT 5 w w' :=
  (laid_c v x n w hown hm hB hn).mono fun e w' ⟨v', h1, h2, h3, h4⟩ => ⟨v', h1, by unfold OwnB; rw [List.length_append, beB_len]; exact h2, h3, h4⟩
theorem OwnB.below {w w' : World} {B : Nat} {v : Value} {L : List Nat} (h : OwnB w B v L) (hb : Below w.heap.size w w') : OwnB w' B v L := own_below h hb
theorem encN_len (l : List Nat) : (encN l).length = 8 * l.length := by
  unfold encN
  induction l with
  | nil => rfl
  | cons x l ih => rw [List.flatMap_cons, List.length_append, ih, beB_len, List.length_cons]; omega
theorem encN_app (l m : List Nat) : encN (l ++ m) = encN l ++ encN m := by unfold encN; rw [List.flatMap_append]
theorem encW_len {a : SolW} (h : OkW a) : (encW a).length ≤ 1034 := by
  have h1 := h.sv
  have h2 := h.sy
  unfold encW
  rw [List.length_append, List.length_append, List.length_append, beB_len, encN_len, encN_len]
  simp
  omega
theorem encP_len {l : List SolW} (h : ∀ a ∈ l, OkW a) : (l.flatMap encW).length ≤ 1034 * l.length := by
  induction l with
  | nil => simp
  | cons a l ih =>
    rw [List.flatMap_cons, List.length_append, List.length_cons]
    have h1 := encW_len (h a (by simp))
    have h2 := ih (fun b hb => h b (by simp [hb]))
    omega
/-- What is laid ahead of the k-th solution. -/
def preE (acc : List SolW) (k : Nat) : List Nat := beB 2 acc.length ++ (acc.take k).flatMap encW
theorem preE_len {acc : List SolW} (h : ∀ a ∈ acc, OkW a) (k : Nat) (hk : k ≤ 4096) : (preE acc k).length ≤ 5000000 := by
  unfold preE
  rw [List.length_append, beB_len]
  have h1 := encP_len (l := acc.take k) (fun a ha => h a (List.mem_of_mem_take ha))
  have h2 : (acc.take k).length ≤ k := by rw [List.length_take]; omega
  omega
theorem preE_succ {acc : List SolW} {k : Nat} {a : SolW} (h : acc[k]? = some a) : preE acc (k + 1) = preE acc k ++ encW a := by
  unfold preE
  have hk := lt_of_some h
  have e : acc[k] = a := by rw [List.getElem?_eq_getElem hk] at h; exact Option.some.inj h
  rw [List.take_succ_eq_append_getElem hk, e, List.flatMap_append, List.append_assoc]
  simp
theorem preE_all (acc : List SolW) : preE acc acc.length = encS acc := by unfold preE encS; rw [List.take_length]
theorem encN_take {l : List Nat} {j u : Nat} (h : l[j]? = some u) : encN (l.take (j + 1)) = encN (l.take j) ++ beB 8 u := by
  have hk := lt_of_some h
  have e : l[j] = u := by rw [List.getElem?_eq_getElem hk] at h; exact Option.some.inj h
  rw [List.take_succ_eq_append_getElem hk, e, encN_snoc]
theorem wrong_ok {acc : List SolW} (h : ∀ a ∈ acc, OkW a) : wrongV (acc.map toM) = 0 := by
  refine wrong0 (n := (acc.map toM).length) ?_ rfl ?_
  · rw [List.any_eq_false]
    intro s hs
    obtain ⟨a, ha, rfl⟩ := List.mem_map.1 hs
    have h1 := (h a ha).sv
    have h2 := (h a ha).sy
    unfold longS toM
    simp
    omega
  · intro j s hj hs
    rw [List.getElem?_map] at hs
    obtain ⟨a, ha, rfl⟩ := Option.map_eq_some_iff.1 hs
    have hk := h a (List.mem_of_getElem? ha)
    refine badS_no (l := a.v.map numW ++ a.a.map numW) (n := (a.v.map numW ++ a.a.map numW).length) rfl rfl hk.fin ?_
    intro i z hi hz
    have hm := List.mem_of_getElem? hz
    rcases List.mem_append.1 hm with hm | hm
    · obtain ⟨u, hu, rfl⟩ := List.mem_map.1 hm
      exact (hk.nv u hu).2
    · obtain ⟨u, hu, rfl⟩ := List.mem_map.1 hm
      exact (hk.na u hu).2
theorem cn_fin {z : C} (h : pFinite z = true) : cnC z = z := by
  unfold pFinite at h
  rw [Bool.and_eq_true] at h
  have h1 : isNaN double z.1 = false := by
    have := of_decide_eq_true h.1
    unfold isNaN; exact decide_eq_false (by omega)
  have h2 : isNaN double z.2 = false := by
    have := of_decide_eq_true h.2
    unfold isNaN; exact decide_eq_false (by omega)
  show (cn .f64 z.1, cn .f64 z.2) = z
  rw [cn_of_not (k := .f64) h1, cn_of_not (k := .f64) h2]
theorem numW_lt {u : Nat} (h : pFinite (numW u) = true) : ltC (numW u) := by
  obtain ⟨f1, f2⟩ := numW_fin h
  exact ⟨(fwide_fin f1).2.2.2.2, (fwide_fin f2).2.2.2.2⟩
theorem nar_ok {acc : List SolW} (h : ∀ a ∈ acc, OkW a) : ∀ s ∈ acc.map toM, ∀ z ∈ s.vs ++ s.ys, Nar1 z := by
  intro s hs z hz
  obtain ⟨a, ha, rfl⟩ := List.mem_map.1 hs
  have hk := h a ha
  rcases List.mem_append.1 hz with hm | hm
  · obtain ⟨u, hu, rfl⟩ := List.mem_map.1 hm
    exact nar_of (hk.nv u hu).1 (cn_fin (hk.nv u hu).2) (numW_lt (hk.nv u hu).2)
  · obtain ⟨u, hu, rfl⟩ := List.mem_map.1 hm
    exact nar_of (hk.na u hu).1 (cn_fin (hk.na u hu).2) (numW_lt (hk.na u hu).2)
/-- What is laid of a number. -/
theorem Bits_n {u : Nat} (hu : u < 18446744073709551616) (h : pFinite (numW u) = true) (w : World) : Calls Try.prog 49 #[.complex .f32 (u / 4294967296) (u % 4294967296)] w fun e w' => e = .returned (.int .u64 (u : Nat)) ∧ w = w' := by
  obtain ⟨f1, f2⟩ := numW_fin h
  have n1 : isNaN single (u / 4294967296) = false := by unfold isNaN; exact decide_eq_false (by unfold fin at f1; omega)
  have n2 : isNaN single (u % 4294967296) = false := by unfold isNaN; exact decide_eq_false (by unfold fin at f2; omega)
  have hc := NBits_c (u / 4294967296) (u % 4294967296) (by omega) (Nat.mod_lt _ (by decide)) w
  rw [nb_not n1, nb_not n2, show u / 4294967296 * 4294967296 + u % 4294967296 = u from by omega] at hc
  exact hc
theorem To_n {u : Nat} (hu : u < 18446744073709551616) (h : pFinite (numW u) = true) (w : World) : Calls Try.prog 50 #[.complex .f64 (numW u).1 (numW u).2] w fun e w' => e = .returned (.complex .f32 (u / 4294967296) (u % 4294967296)) ∧ w = w' := by
  obtain ⟨f1, f2⟩ := numW_fin h
  exact ToX_c (narrow_wide (by omega) f1) (narrow_wide (Nat.mod_lt _ (by decide)) f2) w
/-- What Encode tells of solutions that may be stored. -/
def RetEnc (acc : List SolW) (w : World) (e : Ending) (w' : World) : Prop :=
  ∃ v, e = .returned (.tuple #[v, .int .i64 0]) ∧ OwnB w' w.heap.size v (encS acc) ∧ Below w.heap.size w w'
end Go.Proofs.Ytpfjidijecgjcaa
