/- Layer 31: an archive's bytes, as lists: what is taken, what is laid; what was read is stored as the same bytes. -/
import Derived.Test.YtpfjidijecgjcaaFlA
namespace Fl
open Ieee
/-- So many bytes as a number, the highest first. -/
def valB (l : List Nat) : Nat := l.foldl (fun x c => x * 256 + c) 0
/-- A number's bytes. -/
def beB : Nat → Nat → List Nat
  | 0, _ => []
  | n + 1, x => beB n (x / 256) ++ [x % 256]
theorem beB_len : ∀ n x, (beB n x).length = n
  | 0, _ => rfl
  | n + 1, x => by show (beB n (x / 256) ++ [x % 256]).length = _; rw [List.length_append, beB_len n]; rfl
theorem valB_snoc (l : List Nat) (c : Nat) : valB (l ++ [c]) = valB l * 256 + c := by unfold valB; rw [List.foldl_append]; rfl
theorem be_val : ∀ (n : Nat) (l : List Nat), l.length = n → (∀ c ∈ l, c < 256) → beB n (valB l) = l
  | 0, l, h, _ => by rw [List.eq_nil_of_length_eq_zero h]; rfl
  | n + 1, l, h, hc => by
    obtain ⟨a, c, rfl⟩ : ∃ a c, l = a ++ [c] := by
      have hne : l ≠ [] := fun e => by rw [e] at h; cases h
      exact ⟨l.dropLast, l.getLast hne, (List.dropLast_concat_getLast hne).symm⟩
    have hl : a.length = n := by simpa using h
    have hc1 : c < 256 := hc c (by simp)
    rw [valB_snoc]
    show beB n ((valB a * 256 + c) / 256) ++ [(valB a * 256 + c) % 256] = _
    have e1 : (valB a * 256 + c) / 256 = valB a := by omega
    have e2 : (valB a * 256 + c) % 256 = c := by omega
    rw [e1, e2, be_val n a hl (fun x hx => hc x (by simp [hx]))]
theorem valB_lt : ∀ (n : Nat) (l : List Nat), l.length = n → (∀ c ∈ l, c < 256) → valB l < 256 ^ n
  | 0, l, h, _ => by rw [List.eq_nil_of_length_eq_zero h]; decide
  | n + 1, l, h, hc => by
    obtain ⟨a, c, rfl⟩ : ∃ a c, l = a ++ [c] := by
      have hne : l ≠ [] := fun e => by rw [e] at h; cases h
      exact ⟨l.dropLast, l.getLast hne, (List.dropLast_concat_getLast hne).symm⟩
    have hl : a.length = n := by simpa using h
    have hc1 : c < 256 := hc c (by simp)
    have ih := valB_lt n a hl (fun x hx => hc x (by simp [hx]))
    rw [valB_snoc, Nat.pow_succ]
    omega
/-- What a reader has: the bytes that are left; has it missed some? -/
abbrev RdS := List Nat × Bool
def takeS (n : Nat) (s : RdS) : Nat × RdS := if s.1.length < n then (0, (s.1, true)) else (valB (s.1.take n), (s.1.drop n, s.2))
def rowS : Nat → RdS → List Nat × RdS
  | 0, s => ([], s)
  | k + 1, s => ((rowS k s).1 ++ [(takeS 8 (rowS k s).2).1], (takeS 8 (rowS k s).2).2)
/-- A solution by its bits: omega, volts, amperes. -/
structure SolW where
  w : Nat
  v : List Nat
  a : List Nat
def solS (s : RdS) : SolW × RdS :=
  let t := takeS 8 s
  let u := takeS 1 t.2
  let x := takeS 1 u.2
  let y := rowS u.1 x.2
  let z := rowS x.1 y.2
  (⟨t.1, y.1, z.1⟩, z.2)
def decS : Nat → List SolW → RdS → List SolW × Nat × RdS
  | 0, l, s => (l, 0, s)
  | n + 1, l, s => if s.2 then (l, n + 1, s) else decS n (l ++ [(solS s).1]) (solS s).2
/-- What is laid. -/
def encN (l : List Nat) : List Nat := l.flatMap (beB 8)
def encW (s : SolW) : List Nat := beB 8 s.w ++ [s.v.length % 256, s.a.length % 256] ++ (encN s.v ++ encN s.a)
def encS (l : List SolW) : List Nat := beB 2 l.length ++ l.flatMap encW
/-- Bytes. -/
def okB (l : List Nat) : Prop := ∀ c ∈ l, c < 256
theorem takeS_ok {n : Nat} {s : RdS} (h : (takeS n s).2.2 = false) (hb : okB s.1) : s.2 = false ∧ s.1 = beB n (takeS n s).1 ++ (takeS n s).2.1 ∧ (takeS n s).1 < 256 ^ n := by
  unfold takeS at h ⊢
  by_cases h1 : s.1.length < n
  · rw [if_pos h1] at h; cases h
  · rw [if_neg h1] at h ⊢
    have hl : (s.1.take n).length = n := by rw [List.length_take]; omega
    have hc : ∀ c ∈ s.1.take n, c < 256 := fun c hc => hb c (List.mem_of_mem_take hc)
    refine ⟨h, ?_, valB_lt n _ hl hc⟩
    show s.1 = beB n (valB (s.1.take n)) ++ s.1.drop n
    rw [be_val n _ hl hc, List.take_append_drop]
theorem takeS_bytes {n : Nat} {s : RdS} (hb : okB s.1) : okB (takeS n s).2.1 := by
  unfold takeS
  split
  · exact hb
  · exact fun c hc => hb c (List.mem_of_mem_drop hc)
theorem takeS_bad {n : Nat} {s : RdS} (h : s.2 = true) : (takeS n s).2.2 = true := by
  unfold takeS
  split
  · rfl
  · exact h
theorem rowS_bytes {s : RdS} (hb : okB s.1) : ∀ k, okB (rowS k s).2.1
  | 0 => hb
  | k + 1 => takeS_bytes (rowS_bytes hb k)
theorem rowS_len (s : RdS) : ∀ k, (rowS k s).1.length = k
  | 0 => rfl
  | k + 1 => by show ((rowS k s).1 ++ [_]).length = _; rw [List.length_append, rowS_len s k]; rfl
theorem encN_snoc (l : List Nat) (x : Nat) : encN (l ++ [x]) = encN l ++ beB 8 x := by unfold encN; rw [List.flatMap_append]; simp
theorem rowS_ok {s : RdS} (hb : okB s.1) : ∀ k, (rowS k s).2.2 = false → s.2 = false ∧ s.1 = encN (rowS k s).1 ++ (rowS k s).2.1 ∧ ∀ x ∈ (rowS k s).1, x < 18446744073709551616
  | 0, h => ⟨h, rfl, fun x hx => (by cases hx)⟩
  | k + 1, h => by
    obtain ⟨h1, h2, h3⟩ := takeS_ok h (rowS_bytes hb k)
    obtain ⟨g1, g2, g3⟩ := rowS_ok hb k h1
    refine ⟨g1, ?_, fun x hx => ?_⟩
    · show s.1 = encN ((rowS k s).1 ++ [(takeS 8 (rowS k s).2).1]) ++ (takeS 8 (rowS k s).2).2.1
      rw [encN_snoc, List.append_assoc, ← h2]; exact g2
    · rcases List.mem_append.1 hx with hx | hx
      · exact g3 x hx
      · rw [List.mem_singleton.1 hx]
        have e : (256 : Nat) ^ 8 = 18446744073709551616 := by decide
        rw [← e]; exact h3
theorem solS_bytes {s : RdS} (hb : okB s.1) : okB (solS s).2.1 := rowS_bytes (rowS_bytes (takeS_bytes (takeS_bytes (takeS_bytes hb))) _) _
theorem solS_ok {s : RdS} (hb : okB s.1) (h : (solS s).2.2 = false) : s.2 = false ∧ s.1 = encW (solS s).1 ++ (solS s).2.1 := by
  have b1 := takeS_bytes (n := 8) hb
  have b2 := takeS_bytes (n := 1) b1
  have b3 := takeS_bytes (n := 1) b2
  obtain ⟨h5, e5, -⟩ := rowS_ok (rowS_bytes b3 _) _ h
  obtain ⟨h4, e4, -⟩ := rowS_ok b3 _ h5
  obtain ⟨h3, e3, l3⟩ := takeS_ok h4 b2
  obtain ⟨h2, e2, l2⟩ := takeS_ok h3 b1
  obtain ⟨h1, e1, -⟩ := takeS_ok h2 hb
  refine ⟨h1, ?_⟩
  have k1 : beB 1 (takeS 1 (takeS 8 s).2).1 = [(solS s).1.v.length % 256] := by
    show [(takeS 1 (takeS 8 s).2).1 % 256] = [(rowS _ _).1.length % 256]
    rw [rowS_len]
  have k2 : beB 1 (takeS 1 (takeS 1 (takeS 8 s).2).2).1 = [(solS s).1.a.length % 256] := by
    show [(takeS 1 (takeS 1 (takeS 8 s).2).2).1 % 256] = [(rowS _ _).1.length % 256]
    rw [rowS_len]
  rw [k1] at e2
  rw [k2] at e3
  unfold encW
  rw [e1, e2, e3, e4, e5]
  simp only [List.append_assoc, List.cons_append, List.nil_append]
  rfl
theorem decS_ok : ∀ (n : Nat) (l : List SolW) (s : RdS), okB s.1 → (decS n l s).2.2.2 = false → (decS n l s).2.1 = 0 ∧ (decS n l s).1.length = l.length + n ∧ s.2 = false ∧ l.flatMap encW ++ s.1 = (decS n l s).1.flatMap encW ++ (decS n l s).2.2.1
  | 0, l, s, hb, h => ⟨rfl, rfl, h, rfl⟩
  | n + 1, l, s, hb, h => by
    unfold decS at h ⊢
    by_cases hs : s.2 = true
    · rw [if_pos hs] at h
      have h' : s.2 = false := h
      rw [hs] at h'; cases h'
    · rw [if_neg hs] at h ⊢
      obtain ⟨h1, h2, h3, h4⟩ := decS_ok n _ _ (solS_bytes hb) h
      obtain ⟨g1, g2⟩ := solS_ok hb h3
      refine ⟨h1, ?_, g1, ?_⟩
      · rw [h2, List.length_append]; simp; omega
      · rw [← h4, List.flatMap_append]
        simp only [List.flatMap_cons, List.flatMap_nil, List.append_nil, List.append_assoc]
        rw [← g2]
/-- WHAT WAS READ IS STORED AS THE SAME BYTES. -/
theorem back_same {p : List Nat} (hb : okB p) {l : List SolW} {n : Nat} {b : Bool} (h : decS (takeS 2 (p, false)).1 [] (takeS 2 (p, false)).2 = (l, n, ([], b))) (hbad : b = false) : encS l = p := by
  subst hbad
  have hd := decS_ok (takeS 2 (p, false)).1 [] (takeS 2 (p, false)).2 (takeS_bytes hb) (by rw [h])
  rw [h] at hd
  obtain ⟨-, h2, h3, h4⟩ := hd
  obtain ⟨-, g2, g3⟩ := takeS_ok h3 hb
  have hl : l.length = (takeS 2 (p, false)).1 := by simpa using h2
  unfold encS
  rw [hl]
  have e : l.flatMap encW = (takeS 2 (p, false)).2.1 := by simpa using h4.symm
  rw [e]; exact g2.symm
end Fl
