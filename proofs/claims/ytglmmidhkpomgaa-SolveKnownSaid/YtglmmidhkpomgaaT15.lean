/- Layer 10: SolveKnown: closed data, and what is kept while the world grows. -/
import Derived.Test.YtglmmidhkpomgaaT14
namespace Go.Proofs.Ytglmmidhkpomgaa
open Go.RowKit Fl Ieee
set_option maxRecDepth 20000
attribute [local go_sem] run_store_float run_store_complex Fl.order_self Fl.order_self' Fl.order_eq Fl.order_ne Fl.order_lt Fl.order_gt
theorem max10_lt {P : Program} {x y : Nat} (h : FloatKind.f64.format.order x y = some .lt) (ts : Array TypeId) (t : TypeId) (W : World) :
    (Builtin.max_ ts t #[.float .f64 x, .float .f64 y]).run P W = .ok (.float .f64 y) W := by
  simp [Builtin.max_, Builtin.max2, h]
theorem home_big : HomeOk (0, 9110782046170513408) (0, 4607182418800017408) 1000 := fun V => by
  refine home_c (0, 9110782046170513408) (0, 4607182418800017408) 1000 4602678819172646912 9110782046170513408 ⟨by decide, by decide⟩ (by decide) ?_ ?_ ?_ ?_ V
  · exact fun W => by
      have h := max10_lt (P := Try.prog) (x := rung double 0) (y := rung double 9110782046170513408) (by decide +kernel) #[52, 52] 52 W
      rw [show rung double 9110782046170513408 = 9110782046170513408 by decide +kernel] at h ⊢
      exact h
  · exact fun W => Frexp_c 9110782046170513408 2023 0 4602678819172646912 ⟨by decide, by decide +kernel, by decide +kernel, by decide +kernel, by decide +kernel⟩ (by decide +kernel) (by decide) (by decide +kernel) (by decide +kernel) W
  · exact fun W => by
      have h := Ldexp_z 0 (-1000) (by decide) (by decide +kernel) W
      rw [show cn .f64 0 = 0 by decide +kernel] at h
      exact h
  · exact fun W => by
      have h := Ldexp_c 9110782046170513408 2023 0 4607182418800017408 1023 (-1000) ⟨by decide, by decide +kernel, by decide +kernel, by decide +kernel, by decide +kernel⟩ (by decide +kernel) (by decide) (by decide +kernel) (by decide +kernel) (by decide) (by decide) (by decide) (by decide) (by show _ < _; decide +kernel) W
      rw [show cn .f64 4607182418800017408 = 4607182418800017408 by decide +kernel] at h
      exact h
theorem home_i : HomeOk (0, 4607182418800017408) (0, 4607182418800017408) 0 := fun V => by
  refine home_c (0, 4607182418800017408) (0, 4607182418800017408) 0 4602678819172646912 4607182418800017408 ⟨by decide, by decide⟩ (by decide) ?_ ?_ ?_ ?_ V
  · exact fun W => by
      have h := max10_lt (P := Try.prog) (x := rung double 0) (y := rung double 4607182418800017408) (by decide +kernel) #[52, 52] 52 W
      rw [show rung double 4607182418800017408 = 4607182418800017408 by decide +kernel] at h ⊢
      exact h
  · exact fun W => Frexp_c 4607182418800017408 1023 0 4602678819172646912 ⟨by decide, by decide +kernel, by decide +kernel, by decide +kernel, by decide +kernel⟩ (by decide +kernel) (by decide) (by decide +kernel) (by decide +kernel) W
  · exact fun W => by
      have h := Ldexp_z 0 0 (by decide) (by decide +kernel) W
      rw [show cn .f64 0 = 0 by decide +kernel] at h
      exact h
  · exact fun W => by
      have h := Ldexp_c 4607182418800017408 1023 0 4607182418800017408 1023 0 ⟨by decide, by decide +kernel, by decide +kernel, by decide +kernel, by decide +kernel⟩ (by decide +kernel) (by decide) (by decide +kernel) (by decide +kernel) (by decide) (by decide) (by decide) (by decide) (by show _ < _; decide +kernel) W
      rw [show cn .f64 4607182418800017408 = 4607182418800017408 by decide +kernel] at h
      exact h
def kA : List C := [(0, 9110782046170513408)]
def kB : List C := [(103582791429521408, 0)]
def kE : List C := [(4607182418800017408, 0), (0, 0), (4607182418800017408, 0), (4607182418800017408, 0)]
def cA : List C := [(103582791429521408, 0)]
def cB : List C := [(9110782046170513408, 0)]
def cC : List C := [(0, 0), (0, 0), (0, 0)]
def cD : List C := [(9221120237041090561, 0), (4607182418800017408, 0)]
def cE : List C := [(9214364837600034816, 0), (18437736874454810624, 0)]
theorem lt_all {l : List C} (h : l.all (fun z => decide (z.1 < 18446744073709551616) && decide (z.2 < 18446744073709551616)) = true) : ltCs l := fun z hz => by
  have h1 := List.all_eq_true.1 h z hz
  rw [Bool.and_eq_true] at h1
  exact ⟨of_decide_eq_true h1.1, of_decide_eq_true h1.2⟩
theorem kA_f : ofF 1 1 kA = (0, 0) := by decide +kernel
theorem kB_f : ofF 1 1 kB = (0, 0) := by decide +kernel
theorem kN_f : ofF 0 0 [] = (0, 0) := by decide +kernel
theorem kE_f : ofF 2 2 kE = (0, 0) := by decide +kernel
theorem kA_fin : finTo (ofS 1 kA).E 1 := elRun_fin (matE_fin (l := kA) (n := 1) rfl (by decide +kernel)) 1 (Nat.le_refl _)
theorem kB_fin : finTo (ofS 1 kB).E 1 := elRun_fin (matE_fin (l := kB) (n := 1) rfl (by decide +kernel)) 1 (Nat.le_refl _)
theorem kN_fin : finTo (ofS 0 []).E 0 := fun i _ h => by omega
theorem kE_fin : finTo (ofS 2 kE).E 2 := elRun_fin (matE_fin (l := kE) (n := 2) rfl (by decide +kernel)) 2 (Nat.le_refl _)
theorem kA_perm : Perm 1 (ofS 1 kA).o := run_perm (S := S0 kA 1) ⟨fun _ hi => hi, fun _ _ _ _ h => h⟩ 1 (Nat.le_refl _)
theorem kB_perm : Perm 1 (ofS 1 kB).o := run_perm (S := S0 kB 1) ⟨fun _ hi => hi, fun _ _ _ _ h => h⟩ 1 (Nat.le_refl _)
theorem kN_perm : Perm 0 (ofS 0 []).o := run_perm (S := S0 [] 0) ⟨fun _ hi => hi, fun _ _ _ _ h => h⟩ 0 (Nat.le_refl _)
theorem kE_perm : Perm 2 (ofS 2 kE).o := run_perm (S := S0 kE 2) ⟨fun _ hi => hi, fun _ _ _ _ h => h⟩ 2 (Nat.le_refl _)
theorem sA_ok : solOk 1 (ofS 1 kA) cA = true := by decide +kernel
theorem sA_v : (solL 1 (ofS 1 kA) cA).map cnC = [((0, 9223372036854775808) : C)].map cnC := by decide +kernel
theorem sB_ok : solOk 1 (ofS 1 kB) cB = false := by decide +kernel
theorem sN_ok : solOk 0 (ofS 0 []) [] = true := by decide +kernel
theorem sC_bad : bErr 2 cC = 4 := by decide +kernel
theorem sD_bad : bErr 2 cD = 5 := by decide +kernel
theorem tE_ok : traOk 2 (ofS 2 kE) cE = false := by decide +kernel
theorem kA_u : uppE (ofS 1 kA) 0 0 = (0, 9110782046170513408) := by decide +kernel
def dmA (i : Nat) : C := if i = 0 then (fone, 0) else (0, 4607182418800017408)
def deA (i : Nat) : Int := if i = 0 then 0 else 1000
theorem kA_det : DetH 1 (fun i => uppE (ofS 1 kA) i i) (fun _ => (0, 4607182418800017408)) dmA (fun _ => 1000) (fun _ => 0) deA where
  d0 := rfl
  e0 := rfl
  hm i hi := by
    have h : i = 0 := by omega
    subst h
    show HomeOk (uppE (ofS 1 kA) 0 0) _ _; rw [kA_u]; exact home_big
  step i hi := by
    have h : i = 0 := by omega
    subst h
    rw [show pMul (dmA 0) (0, 4607182418800017408) = (0, 4607182418800017408) by decide +kernel]; exact home_i
  fh i hi := by decide +kernel
  fd i hi := by
    have h : i = 0 ∨ i = 1 := by omega
    rcases h with rfl | rfl <;> decide +kernel
  fm i hi := by
    have h : i = 0 := by omega
    subst h; decide +kernel
  next i hi := by
    have h : i = 0 := by omega
    subst h; rfl
  bp _ _ := by decide
  bq _ _ := by decide
  be i hi := by
    have h : i = 0 ∨ i = 1 := by omega
    rcases h with rfl | rfl <;> decide
theorem dmA_lt : ∀ i, i ≤ 1 → ltC (dmA i) := fun i hi => by
  have h : i = 0 ∨ i = 1 := by omega
  rcases h with rfl | rfl <;> exact ⟨by decide, by decide⟩
theorem kA_d : detD (ofS 1 kA) (dmA 1) = (0, 4607182418800017408) := by decide +kernel
theorem kN_det : DetH 0 (fun i => uppE (ofS 0 []) i i) (fun _ => (0, 0)) (fun _ => (fone, 0)) (fun _ => 0) (fun _ => 0) (fun _ => 0) where
  d0 := rfl
  e0 := rfl
  hm i hi := by omega
  step i hi := by omega
  fh i hi := by omega
  fd i hi := by decide +kernel
  fm i hi := by omega
  next i hi := by omega
  bp i hi := by omega
  bq i hi := by omega
  be i hi := Nat.zero_le _
theorem kN_d : detD (ofS 0 []) (fone, 0) = (fone, 0) := by decide +kernel
/-- Eliminations and rows that are kept while the world grows. -/
structure Kq (w W : World) (es : List (Nat × Nat × Nat × El)) (rs : List (Nat × Obj)) : Prop where
  bel : Below w.heap.size w W
  e : ∀ t ∈ es, Has9 W t.1 t.2.1 t.2.2.1 t.2.2.2
  r : ∀ t ∈ rs, W.heap[t.1]? = some t.2
namespace Kq
variable {w W V : World} {es : List (Nat × Nat × Nat × El)} {rs : List (Nat × Obj)}
theorem below (h : Kq w W es rs) (hb : Below W.heap.size W V) : Kq w V es rs := ⟨h.bel.trans (hb.mono h.bel.size), fun t ht => (h.e t ht).below hb, fun t ht => row_keep hb (h.r t ht)⟩
theorem new (h : Kq w W es rs) (o : Obj) : Kq w (W.alloc o) es rs := h.below (below_new W o)
theorem add {B b n : Nat} {S : El} (h : Kq w W es rs) (h9 : Has9 W B b n S) : Kq w W ((B, b, n, S) :: es) rs := ⟨h.bel, fun t ht => by
  rcases List.mem_cons.1 ht with rfl | ht
  · exact h9
  · exact h.e t ht, h.r⟩
theorem addR {b : Nat} {o : Obj} (h : Kq w W es rs) (hr : W.heap[b]? = some o) : Kq w W es ((b, o) :: rs) := ⟨h.bel, h.e, fun t ht => by
  rcases List.mem_cons.1 ht with rfl | ht
  · exact hr
  · exact h.r t ht⟩
theorem get {B b n : Nat} {S : El} (h : Kq w W es rs) (i : Nat) (hi : es[i]? = some (B, b, n, S)) : Has9 W B b n S := h.e _ (List.mem_of_getElem? hi)
theorem row {b : Nat} {o : Obj} (h : Kq w W es rs) (i : Nat) (hi : rs[i]? = some (b, o)) : W.heap[b]? = some o := h.r _ (List.mem_of_getElem? hi)
/-- A fault's box that tells none. -/
theorem fault {b : Nat} (h : Kq w W es rs) (i : Nat) (hi : rs[i]? = some (b, .cells #[.int .i64 0, .int .i64 0] 27)) : W.cell? ⟨b, 0, none⟩ = some (.int .i64 0) ∧ W.cell? ⟨b, 1, none⟩ = some (.int .i64 0) :=
  ⟨by rw [cell_of_row W b 0 _ _ _ (h.row i hi)]; rfl, by rw [cell_of_row W b 1 _ _ _ (h.row i hi)]; rfl⟩
end Kq
end Go.Proofs.Ytglmmidhkpomgaa
