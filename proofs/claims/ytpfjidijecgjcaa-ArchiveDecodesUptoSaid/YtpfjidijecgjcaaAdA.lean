/- Layer 31: the reader of an archive: so many bytes, so many numbers. -/
import Derived.Test.YtpfjidijecgjcaaAdP
import Derived.Test.YtpfjidijecgjcaaAdN
import Derived.Test.YtpfjidijecgjcaaBas
import Derived.Test.YtpfjidijecgjcaaExt
import Derived.Deep.DeepCutAuto
namespace Go.Proofs.Ytpfjidijecgjcaa
open Go.RowKit Fl Ieee
set_option maxRecDepth 20000
attribute [local go_sem] run_store_float run_store_complex
def bytesV (l : List Nat) : List Value := l.map fun c => .int .u8 (c : Nat)
/-- A reader in memory: what is left of the bytes, has it missed some. -/
def Rdr (w : World) (g : Nat) (s : RdS) : Prop := ∃ A c, w.heap[g]? = some (.cells #[.slice A s.1.length c, .bool s.2] 66) ∧ s.1.length ≤ c ∧ Reads w g A (bytesV s.1) ∧ okB s.1
/-- All but one block is as it was. -/
structure Oth (g : Nat) (w w' : World) : Prop where
  bel : Below g w w'
  blk : ∀ j, j < w.heap.size → j ≠ g → w'.heap[j]? = w.heap[j]?
theorem Oth.refl (g : Nat) (w : World) : Oth g w w := ⟨Below.refl _ _, fun _ _ _ => rfl⟩
theorem Oth.trans {g : Nat} {a b c : World} (h : Oth g a b) (k : Oth g b c) : Oth g a c := ⟨h.bel.trans k.bel, fun j hj hn => (k.blk j (Nat.lt_of_lt_of_le hj h.bel.size) hn).trans (h.blk j hj hn)⟩
theorem Oth.put (g i : Nat) (w : World) (v : Value) : Oth g w (w.setCell ⟨g, i, none⟩ v) := ⟨(Below.refl g w).setCell (show g ≤ (⟨g, i, none⟩ : Addr).block from Nat.le_refl g) v, fun _ _ hn => Below.heap_setCell _ _ _ _ hn⟩
theorem shl_or {x c : Nat} (hc : c < 256) : ((x * 256) ||| c : Nat) = x * 256 + c := by
  have h := Nat.shiftLeft_add_eq_or_of_lt (show c < 2 ^ 8 from hc) x
  rw [Nat.shiftLeft_eq] at h
  exact h.symm
theorem or_bytes {V x : Nat} (hV : V < 72057594037927936) (hx : x < 256) : bits .or .u64 (IntKind.u64.wrap ((V : Int) * 256)) (IntKind.u64.wrap (x : Int)) = ((V * 256 + x : Nat) : Int) := by
  have e0 : IntKind.u64.wrap (x : Int) = (x : Int) := by
    have h2 : IntKind.u64.wrap (x : Int) = (x : Int) % 18446744073709551616 := by simp [IntKind.wrap, IntKind.bits, IntKind.signed]
    rw [h2]; omega
  have e : IntKind.u64.wrap ((V : Int) * 256) = ((V * 256 : Nat) : Int) := by
    have h1 : ((V : Int) * 256) = ((V * 256 : Nat) : Int) := by simp
    have h2 : IntKind.u64.wrap ((V * 256 : Nat) : Int) = ((V * 256 : Nat) : Int) % 18446744073709551616 := by simp [IntKind.wrap, IntKind.bits, IntKind.signed]
    rw [h1, h2]
    omega
  rw [e0, e, u64_or_nat _ _ (by omega) (by omega), shl_or hx]
theorem take_c {g : Nat} {s : RdS} {n : Nat} (w : World) (h : Rdr w g s) (h1 : 1 ≤ n) (h8 : n ≤ 8) :
    Calls Try.prog 37 #[.pointer (some ⟨g, 0, none⟩), .int .i64 (n : Nat)] w fun e w' => e = .returned (.int .u64 ((takeS n s).1 : Nat)) ∧ Rdr w' g (takeS n s).2 ∧ Oth g w w' := by
  obtain ⟨A, c, hrow, hc, hrd, hb⟩ := h
  have q0 : w.cell? ⟨g, 0, none⟩ = some (.slice A s.1.length c) := by rw [cell_of_row _ _ 0 _ _ _ hrow]; rfl
  have q1 : w.cell? ⟨g, 1, none⟩ = some (.bool s.2) := by rw [cell_of_row _ _ 1 _ _ _ hrow]; rfl
  have f0 : w.frozen? ⟨g, 0, none⟩ = false := frozen_of_row w g 0 _ _ hrow
  have f1 : w.frozen? ⟨g, 1, none⟩ = false := frozen_of_row w g 1 _ _ hrow
  have HRow := Lib.hid hrow
  have HRd := Lib.hid hrd
  have HB := Lib.hid hb
  by_cases hlt : s.1.length < n
  · have hlt' : (s.1.length : Int) < n := by omega
    have ht : takeS n s = (0, (s.1, true)) := by unfold takeS; rw [if_pos hlt]
    rw [ht]
    have HP := Lib.hid (show Rdr (w.setCell ⟨g, 1, none⟩ (.bool true)) g (s.1, true) from ⟨A, c, by rw [heap_setCell_same _ _ _ _ _ _ hrow]; rfl, hc, hrd.below ((Below.refl g w).setCell (Nat.le_refl _) _), hb⟩)
    clear hrow hrd hb hlt ht
    go_enter Try.func37, Try.ntmps37
    go_wp2
    go_ret
    exact ⟨rfl, HP.out, Oth.put _ _ _ _⟩
  · have hlt' : ¬ (s.1.length : Int) < n := by omega
    have hnc : (n : Int) ≤ (c : Int) := by omega
    have hn0 : ¬ (n : Int) < 0 := by omega
    obtain ⟨ad, rfl, hab, hcell⟩ := hrd (by simp [bytesV]; omega)
    have ht : takeS n s = (valB (s.1.take n), (s.1.drop n, s.2)) := by unfold takeS; rw [if_neg hlt]
    rw [ht]
    have HCe := Lib.hid hcell
    have HLn := Lib.hid (show n ≤ s.1.length by omega)
    clear hrow hrd hb hlt ht hcell
    go_enter Try.func37, Try.ntmps37
    go_wp2
    go_loopw [4, 24] (fun xv jv wr => ∃ j : Nat, j ≤ n ∧ jv = .int .i64 (j : Nat) ∧ xv = .int .u64 (valB (s.1.take j) : Nat) ∧ wr = w) (fun _ jv _ => n - (intOf jv).toNat)
    case atStart => exact ⟨0, Nat.zero_le _, rfl, rfl, rfl⟩
    case round =>
      obtain ⟨j, hj, rfl, rfl, rfl⟩ := hrel
      by_cases hjn : j < n
      · have hjn' : (j : Int) < n := by omega
        obtain ⟨x, hx⟩ := some_of_lt (l := s.1) (k := j) (by have := HLn.out; omega)
        have hxb := HB.out x (List.mem_of_getElem? hx)
        have hcx := HCe.out j (.int .u8 (x : Nat)) (by simp [bytesV, hx])
        have HV := Lib.hid (show valB (s.1.take (j + 1)) = valB (s.1.take j) * 256 + x from by
          have hkl := lt_of_some hx
          have e : s.1[j] = x := by rw [List.getElem?_eq_getElem hkl] at hx; exact Option.some.inj hx
          rw [List.take_succ_eq_append_getElem hkl, e, valB_snoc])
        have hvb : valB (s.1.take j) < 256 ^ j := valB_lt j _ (by rw [List.length_take]; have := HLn.out; omega) (fun c hc => HB.out c (List.mem_of_mem_take hc))
        have hv7 : valB (s.1.take j) < 72057594037927936 := Nat.lt_of_lt_of_le hvb (Nat.pow_le_pow_right (show 256 > 0 by decide) (show j ≤ 7 by omega))
        obtain ⟨V, hV⟩ : ∃ V, V = valB (s.1.take j) := ⟨_, rfl⟩
        rw [← hV] at HV hv7 ⊢
        have hor := or_bytes hv7 hxb
        clear hx hxb hvb hv7 hV hj
        go_wp2
        go_roundw
        case rel => exact ⟨j + 1, hjn, by go_num, by rw [HV.out]; simp, trivial⟩
        case measure => simp [intOf]; omega
      · have e : j = n := by omega
        subst e
        have HD := Lib.hid (show ∀ (A : Option Addr) (cc : Nat), s.1.length - j ≤ cc → (0 < s.1.length - j → A = some (ad.add j)) → Rdr (wr.setCell ⟨g, 0, none⟩ (.slice A (s.1.length - j) cc)) g (s.1.drop j, s.2) from fun A cc h1 h2 => by
          refine ⟨A, cc, by rw [List.length_drop, heap_setCell_same _ _ _ _ _ _ HRow.out]; rfl, by rw [List.length_drop]; exact h1, fun h0 => ?_, fun c hc => HB.out c (List.mem_of_mem_drop hc)⟩
          have hl : 0 < s.1.length - j := by simpa [bytesV] using h0
          refine ⟨ad.add j, h2 hl, by rw [block_of_add]; exact hab, fun i u hu => ?_⟩
          have hu2 : (bytesV s.1)[j + i]? = some u := by
            unfold bytesV at hu ⊢
            rw [List.getElem?_map, List.getElem?_drop] at hu
            rw [List.getElem?_map]; exact hu
          rw [Go.Deep.add_add, Below.cell ((Below.refl g wr).setCell (show g ≤ (⟨g, 0, none⟩ : Addr).block from Nat.le_refl g) _) (by rw [block_of_add]; exact hab)]
          exact HCe.out (j + i) u hu2)
        have HLe := Lib.hid hc
        clear hc hj
        go_wp2
        · go_ret
          exact ⟨rfl, HD.out _ _ (by have := HLe.out; omega) (fun h => by have := HLe.out; omega), Oth.put _ _ _ _⟩
        · go_ret
          exact ⟨rfl, HD.out _ _ (by have := HLe.out; omega) (fun h => rfl), Oth.put _ _ _ _⟩
end Go.Proofs.Ytpfjidijecgjcaa
