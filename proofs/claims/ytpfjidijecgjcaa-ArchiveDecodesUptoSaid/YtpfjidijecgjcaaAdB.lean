/- Layer 31: a list of numbers out of a reader. -/
import Derived.Test.YtpfjidijecgjcaaAdA
import Derived.Test.YtpfjidijecgjcaaNar
import Derived.Test.YtpfjidijecgjcaaBas
import Derived.Deep.DeepCutAuto
namespace Go.Proofs.Ytpfjidijecgjcaa
open Go.RowKit Fl Ieee
set_option maxRecDepth 20000
attribute [local go_sem] run_store_float run_store_complex
abbrev ltC (z : C) : Prop := z.1 < 18446744073709551616 ∧ z.2 < 18446744073709551616
abbrev ltCs (l : List C) : Prop := ∀ z ∈ l, ltC z
abbrev cnC (z : C) : C := (cn .f64 z.1, cn .f64 z.2)
abbrev nums (l : List C) : List Value := l.map fun z => .complex .f64 z.1 z.2
theorem BackX_c (a b : Nat) (w : World) : Calls Try.prog 57 #[.complex .f32 a b] w (RetC (fwide a, fwide b) w) := by
  go_enter Try.func57, Try.ntmps57
  go_wp2_with fail
  refine upon_widen (by kernel_rfl) Try.underlying36 _ ?_
  intro r1 n1 h1
  go_wp2_with fail
  refine upon_widen (by kernel_rfl) Try.underlying36 _ ?_
  intro r2 n2 h2
  have H := Lib.hid (And.intro h1 h2)
  clear h1 h2
  go_wp2
  go_ret
  refine ⟨r1, r2, n1 + n2, rfl, ?_, H.out.1.2, H.out.2.2, by simp⟩
  have e1 := H.out.1.1
  have e2 := H.out.2.1
  rw [fwide_cn] at e1 e2
  rw [e1, e2]
theorem own_oth {g : Nat} {w w' : World} {B e size n : Nat} {v : Value} {xs : List Value} (h : w.ownsRow B e size v n xs) (hB : g < B) (ho : Oth g w w') : w'.ownsRow B e size v n xs := by
  refine ⟨h.1, ?_⟩
  rcases h.2 with h1 | ⟨q, cap, cur, hv, hbg, hq, hr⟩
  · exact .inl h1
  · have hlt : q < w.heap.size := by
      rcases Nat.lt_or_ge q w.heap.size with h | h
      · exact h
      · rw [Array.getElem?_eq_none h] at hq; cases hq
    exact .inr ⟨q, cap, cur, hv, hbg, by rw [ho.blk q hlt (by omega)]; exact hq, hr⟩
theorem Rdr.lt {w : World} {g : Nat} {s : RdS} (h : Rdr w g s) : g < w.heap.size := by
  obtain ⟨A, c, hrow, -⟩ := h
  rcases Nat.lt_or_ge g w.heap.size with h | h
  · exact h
  · rw [Array.getElem?_eq_none h] at hrow; cases hrow
/-- What comes behind leaves the reader. -/
theorem Rdr.below {w w' : World} {g : Nat} {s : RdS} (h : Rdr w g s) (hb : Below w.heap.size w w') : Rdr w' g s := by
  have hl := h.lt
  obtain ⟨A, c, hrow, h1, h2, h3⟩ := h
  exact ⟨A, c, by rw [hb.block g hl]; exact hrow, h1, h2.below (hb.mono (Nat.le_of_lt hl)), h3⟩
theorem Oth.below {g : Nat} {w w' : World} (hg : g ≤ w.heap.size) (h : Below w.heap.size w w') : Oth g w w' := ⟨h.mono hg, fun j hj _ => h.block j hj⟩
theorem Oth.grown {g B : Nat} {w0 w w' : World} {row : Option Nat} (h : Oth g w0 w) (hg : w.grownBy w' row) (hB : w0.heap.size ≤ B) (hgB : g ≤ w0.heap.size) (hr : ∀ k, row = some k → B ≤ k) : Oth g w0 w' :=
  ⟨h.bel.grown hg (Nat.le_trans hgB h.bel.size) (fun k hk => Nat.le_trans hgB (Nat.le_trans hB (hr k hk))), fun j hj hn => (hg.block j (Nat.lt_of_lt_of_le hj h.bel.size) (fun e => by have := hr j e.symm; omega)).trans (h.blk j hj hn)⟩
theorem Rdr.grown {w w' : World} {g B : Nat} {s : RdS} {row : Option Nat} (h : Rdr w g s) (hg : w.grownBy w' row) (hB : g < B) (hr : ∀ k, row = some k → B ≤ k) : Rdr w' g s := by
  have hl := h.lt
  obtain ⟨A, c, hrow, h1, h2, h3⟩ := h
  have hb : Below g w w' := (Below.refl g w).grown hg (Nat.le_of_lt hl) (fun k hk => by have := hr k hk; omega)
  exact ⟨A, c, by rw [hg.block g hl (fun e => by have := hr g e.symm; omega)]; exact hrow, h1, h2.below hb, h3⟩
def RetRow (k : Nat) (s : RdS) (g : Nat) (w : World) (e : Ending) (w' : World) : Prop :=
  ∃ v zs, e = .returned v ∧ zs.map cnC = (rowS k s).1.map numW ∧ ltCs zs ∧ w'.ownsRow w.heap.size 60 1 v k (nums zs) ∧ Rdr w' g (rowS k s).2 ∧ Oth g w w'
theorem infoNum : (Try.prog.info? 60).map (fun i => (i.zero, i.size, i.bytes)) = some (some (.complex .f64 0 0), 1, 16) := by kernel_rfl
theorem list_c {g : Nat} {s : RdS} {n : Nat} (w : World) (h : Rdr w g s) (hn : n ≤ 256) : Calls Try.prog 39 #[.pointer (some ⟨g, 0, none⟩), .int .i64 (n : Nat)] w (RetRow n s g w) := by
  obtain ⟨i0, hi0, hz0, hz1, hz2⟩ := info_parts infoNum
  have HR := Lib.hid h
  have HN := Lib.hid hn
  clear h
  go_enter Try.func39, Try.ntmps39
  go_wp2
  go_loopw [5, 7] (fun lv kv wr => ∃ (k : Nat) (zs : List C), k ≤ n ∧ kv = .int .i64 (k : Nat) ∧ Hid (zs.map cnC = (rowS k s).1.map numW ∧ ltCs zs) ∧ Hid (wr.ownsRow w.heap.size 60 1 lv k (nums zs)) ∧ Hid (Rdr wr g (rowS k s).2) ∧ Hid (Oth g w wr)) (fun _ kv _ => n - (intOf kv).toNat)
  case atStart => exact ⟨0, [], Nat.zero_le _, rfl, Lib.hid ⟨rfl, fun z hz => by cases hz⟩, Lib.hid (World.ownsRow_nil _ _ _ _), HR, Lib.hid (Oth.refl _ _)⟩
  case round =>
    obtain ⟨k, zs, hk, rfl, HZ, HO, HK, HB⟩ := hrel
    rename World => wr
    by_cases hkn : k < n
    · have hkn' : (k : Int) < n := by omega
      have HTk := Lib.hid (take_c (n := 8) wr HK.out (by decide) (by decide))
      obtain ⟨u, hu⟩ : ∃ u, u = (takeS 8 (rowS k s).2).1 := ⟨_, rfl⟩
      rw [← hu] at HTk
      have HUu := Lib.hid hu
      have HSz := Lib.hid (show k + 1 ≤ maxLen ∧ (k + 1) * 16 ≤ 140737488355328 from by unfold maxLen; omega)
      clear hu hk
      go_wp2_with fail
      refine HTk.out.mono ?_
      rintro e W1 ⟨rfl, hr1, ho1⟩
      have hub : u < 18446744073709551616 := by
        rw [HUu.out]
        unfold takeS
        split
        · show (0 : Nat) < 18446744073709551616; decide
        · obtain ⟨A, c, -, -, -, hb⟩ := HK.out
          have h1 := valB_lt 8 ((rowS k s).2.1.take 8) (by rw [List.length_take]; omega) (fun c hc => hb c (List.mem_of_mem_take hc))
          have e : (256 : Nat) ^ 8 = 18446744073709551616 := by decide
          rw [e] at h1; exact h1
      have HR1 := Lib.hid hr1
      have HO1 := Lib.hid (own_oth HO.out HR.out.lt ho1)
      have HB1 := Lib.hid (HB.out.trans ho1)
      have HFb := Lib.hid (NFromBits_c u hub)
      have HBk := Lib.hid (BackX_c (u / 4294967296) (u % 4294967296))
      clear hr1 ho1 hub HTk
      go_wp2_with fail
      refine (HFb.out _).mono ?_
      rintro e w' ⟨rfl, rfl⟩
      go_wp2_with fail
      refine (HBk.out _).mono ?_
      rintro e W2' ⟨x, y, d, rfl, hxy, hx, hy, W2e⟩
      obtain ⟨W2, hW2⟩ : ∃ V, V = W2' := ⟨_, rfl⟩
      have hb2 : Below W1.heap.size W1 W2 := by rw [hW2, W2e]; exact (by have := Below.refl W1.heap.size W1; exact ⟨this.os, this.tape, this.output, this.size, this.block⟩)
      rw [← hW2]
      have HR2 := Lib.hid (HR1.out.below hb2)
      have HO2 := Lib.hid (own_below HO1.out hb2)
      have HB2 := Lib.hid (HB1.out.trans (Oth.below (Nat.le_of_lt HR1.out.lt) hb2))
      have HXy := Lib.hid (And.intro hxy (And.intro hx hy))
      clear W2e hW2 hb2 hxy hx hy
      go_wp2_with (at_builtin; refine wpList_append_stays _ rfl (.tmp 9) (.tmp 14) 37 rfl w.heap.size 60 i0 (.complex .f64 0 0) 16 Try.underlying37 hi0 hz0 hz1 hz2 rfl _ _ _ rfl (HO2.out.alloc _) ⟨W2.heap.size, 0, none⟩ 1 1 [.complex .f64 x y] rfl rfl (cell_one_new _ _ _) (by intro u hu; simp at hu; subst hu; rfl) HSz.out.1 HSz.out.2 (Nat.le_trans HB2.out.bel.size (below_new _ _).size) ?_; intro v' w2 hown1 hgrow1 hat1)
      have HR3 := Lib.hid ((HR2.out.below (below_new W2 (.cells #[.complex .f64 x y] 60))).grown hgrow1 HR.out.lt (fun k hk => (HO2.out.lt k hk).1))
      have HB3 := Lib.hid ((HB2.out.trans (Oth.below (Nat.le_of_lt HR2.out.lt) (below_new W2 (.cells #[.complex .f64 x y] 60)))).grown hgrow1 (Nat.le_refl _) (Nat.le_of_lt HR.out.lt) (fun k hk => (HO2.out.lt k hk).1))
      have HO3 := Lib.hid (show w2.ownsRow w.heap.size 60 1 v' (k + 1) (nums (zs ++ [(x, y)])) from by
        have er : nums zs ++ [.complex .f64 x y] = nums (zs ++ [(x, y)]) := by simp [nums]
        rw [← er]; exact hown1)
      have HZ3 := Lib.hid (show (zs ++ [(x, y)]).map cnC = (rowS (k + 1) s).1.map numW ∧ ltCs (zs ++ [(x, y)]) from by
        refine ⟨?_, fun z hz => ?_⟩
        · show _ = ((rowS k s).1 ++ [(takeS 8 (rowS k s).2).1]).map numW
          rw [List.map_append, List.map_append, HZ.out.1, ← HUu.out]
          congr 1
          exact congrArg (fun q => [q]) HXy.out.1
        · rcases List.mem_append.1 hz with h | h
          · exact HZ.out.2 z h
          · rw [List.mem_singleton.1 h]; exact HXy.out.2)
      clear hown1 hgrow1 hat1
      go_roundw
      case rel => exact ⟨k + 1, zs ++ [(x, y)], hkn, by go_num, HZ3, HO3, HR3, HB3⟩
      case measure => simp [intOf]; omega
    · have e : k = n := by omega
      subst e
      go_wp2
      go_ret
      exact ⟨_, zs, rfl, HZ.out.1, HZ.out.2, HO.out, HK.out, HB.out⟩
end Go.Proofs.Ytpfjidijecgjcaa
