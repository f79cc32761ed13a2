/- Layer 31: bytes lent, kept, written over. -/
import Derived.Test.YtpfjidijecgjcaaAdJ
import Derived.Test.YtpfjidijecgjcaaAdH
import Derived.Deep.DeepCutAuto
import Derived.Maps.AppendAt
namespace Go.Proofs.Ytpfjidijecgjcaa
open Go.RowKit Fl Ieee
set_option maxRecDepth 20000
def markB (k i : Nat) : Nat := (7 * k + i + 1) % 256
theorem markB_c (k i : Nat) (hk : k ≤ 100) (hi : i ≤ 2000000) (w : World) :
    Calls Try.prog 36 #[.int .i64 (k : Nat), .int .i64 (i : Nat)] w fun e w' => e = .returned (.int .u8 (markB k i : Nat)) ∧ w = w' := by
  have h1 : wrap64 (7 * (k : Int)) = 7 * (k : Int) := by unfold wrap64; omega
  have h2 : wrap64 (7 * (k : Int) + (i : Int)) = 7 * (k : Int) + (i : Int) := by unfold wrap64; omega
  have h3 : wrap64 (7 * (k : Int) + (i : Int) + 1) = 7 * (k : Int) + (i : Int) + 1 := by unfold wrap64; omega
  have h4 : IntKind.u8.wrap (7 * (k : Int) + (i : Int) + 1) = (markB k i : Nat) := by
    have h2 : IntKind.u8.wrap (7 * (k : Int) + (i : Int) + 1) = (7 * (k : Int) + (i : Int) + 1) % 256 := by simp [IntKind.wrap, IntKind.bits, IntKind.signed]
    rw [h2]; unfold markB; omega
  go_enter Try.func36, Try.ntmps36
  go_wp2
  go_ret
  exact ⟨rfl, rfl⟩
theorem bytes_one {l : List Nat} : ∀ u ∈ bytesV l, u.oneCell' = true := fun u hu => by
  obtain ⟨z, -, rfl⟩ := List.mem_map.1 hu
  rfl
def RetBy (l : List Nat) (w : World) (e : Ending) (w' : World) : Prop := ∃ v, e = .returned v ∧ OwnB w' w.heap.size v l ∧ Below w.heap.size w w'
theorem CopyB_c (A : Option Addr) (l : List Nat) (cap : Nat) (w : World) (hl : l.length ≤ 2000000) (hA : A = none → cap = 0) (hr : Reads w w.heap.size A (bytesV l)) :
    Calls Try.prog 32 #[.slice A l.length cap] w (RetBy l w) := by
  obtain ⟨i0, hi0, hz0, hz1, hz2⟩ := info_parts infoByte
  cases A with
  | none =>
    have e : l = [] := by
      cases l with
      | nil => rfl
      | cons a t => obtain ⟨ad, e, _⟩ := hr (by simp [bytesV]); cases e
    subst e
    rw [hA rfl]
    clear hA hr hl
    show Calls Try.prog 32 #[.slice none 0 0] w _
    go_enter Try.func32, Try.ntmps32
    go_wp2
    go_ret
    exact ⟨_, rfl, World.ownsRow_nil _ _ _ _, Below.refl _ _⟩
  | some ad =>
    have HN := Lib.hid (fun j u (hu : (bytesV l)[j]? = some u) => reads_add hr rfl j u hu)
    have HSz := Lib.hid (show 0 + l.length ≤ maxLen ∧ (0 + l.length) * 1 ≤ 140737488355328 from by unfold maxLen; omega)
    obtain ⟨n, hn⟩ : ∃ n, n = l.length := ⟨_, rfl⟩
    rw [← hn] at HSz ⊢
    have HL := Lib.hid (show (bytesV l).length = n * 1 from by simp [bytesV, hn])
    have HNn := Lib.hid hn
    clear hr hl hA hn
    go_enter Try.func32, Try.ntmps32
    go_wp2_with (at_builtin; refine wpList_append_stays _ rfl (.tmp 4) (.tmp 5) 22 rfl w.heap.size 5 i0 (.int .u8 0) 1 Try.underlying22 hi0 hz0 hz1 hz2 rfl _ 0 [] rfl (World.ownsRow_nil _ _ _ _) ad n cap (bytesV l) rfl HL.out HN.out bytes_one HSz.out.1 HSz.out.2 (Nat.le_refl _) ?_; intro v' w1 hown1 hgrow1 hat1)
    go_ret
    refine ⟨v', rfl, ?_, (Below.refl _ w).grown hgrow1 (Nat.le_refl _) (fun j hj => by cases hj)⟩
    unfold OwnB
    rw [← HNn.out]
    simpa using hown1
/-- The bytes and k marks. -/
def lentB (l : List Nat) (k : Nat) : List Nat := l ++ (List.range k).map (markB 7)
theorem lentB_succ (l : List Nat) (k : Nat) : lentB l (k + 1) = lentB l k ++ [markB 7 k] := by
  unfold lentB; rw [List.range_succ, List.map_append, ← List.append_assoc]; rfl
theorem lentB_len (l : List Nat) (k : Nat) : (lentB l k).length = l.length + k := by unfold lentB; simp
theorem LentB_c (A : Option Addr) (l : List Nat) (cap : Nat) (w : World) (hl : l.length ≤ 1500000) (hA : A = none → cap = 0) (hr : Reads w w.heap.size A (bytesV l)) :
    Calls Try.prog 8 #[.slice A l.length cap] w (RetBy (lentB l 6) w) := by
  obtain ⟨i0, hi0, hz0, hz1, hz2⟩ := info_parts infoByte
  have HC := Lib.hid (CopyB_c A l cap w (by omega) hA hr)
  have HL := Lib.hid hl
  obtain ⟨n, hn⟩ : ∃ n, n = l.length := ⟨_, rfl⟩
  rw [← hn] at HC ⊢
  clear hl hA hr hn
  go_enter Try.func8, Try.ntmps8
  go_wp2_with fail
  refine HC.out.mono ?_
  rintro e W1 ⟨s, rfl, hown, hb⟩
  have HO1 := Lib.hid (show OwnB W1 w.heap.size s (lentB l 0) from by simpa [lentB] using hown)
  have HB1 := Lib.hid hb
  clear hown hb HC
  go_wp2
  go_loopw [3, 4] (fun sv iv wr => ∃ k : Nat, k ≤ 6 ∧ iv = .int .i64 (k : Nat) ∧ Hid (OwnB wr w.heap.size sv (lentB l k)) ∧ Hid (Below w.heap.size w wr)) (fun _ iv _ => 6 - (intOf iv).toNat)
  case atStart => exact ⟨0, Nat.zero_le _, rfl, HO1, HB1⟩
  case round =>
    obtain ⟨k, hk, rfl, HO, HB⟩ := hrel
    rename World => wr
    by_cases hk6 : k < 6
    · have hk6' : (k : Int) < 6 := by omega
      have HM := Lib.hid (fun V => markB_c 7 k (by decide) (by omega) V)
      have HSz := Lib.hid (show (lentB l k).length + 1 ≤ maxLen ∧ ((lentB l k).length + 1) * 1 ≤ 140737488355328 from by have := HL.out; rw [lentB_len]; unfold maxLen; omega)
      obtain ⟨mk, hmk⟩ : ∃ mk, mk = markB 7 k := ⟨_, rfl⟩
      rw [← hmk] at HM
      have HMk := Lib.hid hmk
      clear hk hmk
      go_wp2_with fail
      refine (HM.out _).mono ?_
      rintro e w' ⟨rfl, rfl⟩
      go_wp2_with (at_builtin; refine wpList_append_stays _ rfl (.tmp 11) (.tmp 14) 22 rfl w.heap.size 5 i0 (.int .u8 0) 1 Try.underlying22 hi0 hz0 hz1 hz2 rfl _ _ _ rfl (HO.out.alloc _) ⟨wr.heap.size, 0, none⟩ 1 1 [.int .u8 (mk : Nat)] rfl rfl (cell_one_new _ _ _) (by intro u hu; simp at hu; subst hu; rfl) HSz.out.1 HSz.out.2 (Nat.le_trans HB.out.size (below_new _ _).size) ?_; intro v' w2 hown1 hgrow1 hat1)
      have HB3 := Lib.hid ((HB.out.trans ((below_new wr (.cells #[.int .u8 (mk : Nat)] 5)).mono HB.out.size)).grown hgrow1 (Nat.le_trans HB.out.size (below_new _ _).size) (fun k hk => (HO.out.lt k hk).1))
      have HO3 := Lib.hid (show OwnB w2 w.heap.size v' (lentB l (k + 1)) from by
        unfold OwnB
        have er : bytesV (lentB l k) ++ [.int .u8 (mk : Nat)] = bytesV (lentB l (k + 1)) := by rw [lentB_succ, HMk.out]; simp [bytesV]
        rw [lentB_succ, List.length_append, ← lentB_succ, ← er]; exact hown1)
      clear hown1 hgrow1 hat1
      go_wp2
      go_roundw
      case rel => exact ⟨k + 1, hk6, by go_num, HO3, HB3⟩
      case measure => simp [intOf]; omega
    · have e : k = 6 := by omega
      subst e
      go_wp2
      go_ret
      exact ⟨_, rfl, HO.out, HB.out⟩
theorem KeptB_t (A F : Option Addr) (l : List Nat) (n cap capf : Nat) (w : World) (hl : l.length ≤ 1500000) (hA : A = none → cap = 0) (hr : Reads w w.heap.size A (bytesV l)) (hn : n = l.length + 6) (hf : Reads w w.heap.size F (bytesV (lentB l 6))) :
    Calls Try.prog 12 #[.slice F n capf, .slice A l.length cap] w fun e w' => e = .returned (.bool true) ∧ Below w.heap.size w w' := by
  have HC := Lib.hid (LentB_c A l cap w hl hA hr)
  have HF := Lib.hid hf
  have HN := Lib.hid (show n = (lentB l 6).length ∧ n ≤ 1500006 from ⟨by rw [lentB_len]; exact hn, by omega⟩)
  obtain ⟨m, hm⟩ : ∃ m, m = l.length := ⟨_, rfl⟩
  rw [← hm] at HC ⊢
  clear hl hA hr hn hf hm
  go_enter Try.func12, Try.ntmps12
  go_wp2_with fail
  refine HC.out.mono ?_
  rintro e W1 ⟨s, rfl, hown, hb⟩
  obtain ⟨sA, sc, rfl, hrd, -, -⟩ := own_reads hown
  rw [← HN.out.1]
  have HS := Lib.hid (SameBytes_t F sA (lentB l 6) n capf sc W1 HN.out.1.symm (by have := HN.out.2; omega) ((HF.out.below hb).more hb.size) hrd)
  have HB := Lib.hid hb
  clear hown hb hrd HC
  go_wp2_with fail
  refine HS.out.mono ?_
  rintro e w' ⟨d, rfl, rfl⟩
  go_wp2
  go_ret
  exact ⟨rfl, below_drewN HB.out d⟩
theorem OverB_c (g cap n B : Nat) (w : World) (zs : List Nat) (hz : zs.length = n) (hn : n ≤ 1600000) (h : w.ownsRow B 5 1 (.slice (some ⟨g, 0, none⟩) n cap) n (bytesV zs)) :
    Calls Try.prog 13 #[.slice (some ⟨g, 0, none⟩) n cap] w fun e w' => e = .returned (.tuple #[]) ∧ w.grownBy w' (some g) := by
  have HO := Lib.hid h
  have HL := Lib.hid hz
  have HN := Lib.hid hn
  clear h hz hn
  go_enter Try.func13, Try.ntmps13
  go_wp2
  go_loopw [2] (fun i wr => ∃ (k : Nat) (ys : List Nat), k ≤ n ∧ i = .int .i64 (k : Nat) ∧ Hid (ys.length = n ∧ wr.ownsRow B 5 1 (.slice (some ⟨g, 0, none⟩) n cap) n (bytesV ys) ∧ w.grownBy wr (some g))) (fun i _ => n - (intOf i).toNat)
  case atStart => exact ⟨0, zs, Nat.zero_le _, rfl, Lib.hid ⟨HL.out, HO.out, ⟨rfl, rfl, rfl, Nat.le_refl _, fun _ _ _ => rfl⟩⟩⟩
  case round =>
    obtain ⟨k, ys, hk, rfl, HR⟩ := hrel
    rename World => wr
    by_cases hlt : k < n
    · have hlti : (k : Int) < (n : Int) := Int.ofNat_lt.2 hlt
      have hkb : k < 4611686018427387904 := by have := HN.out; omega
      have HM := Lib.hid (markB_c 9 k (by omega) (by have := HN.out; omega) wr)
      obtain ⟨mk, hmk⟩ : ∃ mk, mk = markB 9 k := ⟨_, rfl⟩
      rw [← hmk] at HM
      obtain ⟨u, hu⟩ := some_of_lt (l := ys) (k := k) (by rw [HR.out.1]; exact hlt)
      have hc : wr.cell? ⟨g, k, none⟩ = some (.int .u8 (u : Nat)) := by
        rw [HR.out.2.1.cellAt k (by omega)]; simp [bytesV, hu]
      have hf := HR.out.2.1.frozenAt k
      clear hu hmk hk
      go_wp2_with fail
      refine HM.out.mono ?_
      rintro e w' ⟨rfl, rfl⟩
      go_wp2
      go_roundw
      case rel =>
        have hs := HR.out.2.1.stored k (.int .u8 (mk : Nat))
        rw [show (bytesV ys).set k (.int .u8 (mk : Nat)) = bytesV (ys.set k mk) from by simp [bytesV, List.map_set]] at hs
        exact ⟨k + 1, _, hlt, by go_num, Lib.hid ⟨by rw [List.length_set]; exact HR.out.1, hs.1, HR.out.2.2.trans hs.2⟩⟩
      case measure => simp [intOf]; omega
    · have e : k = n := by omega
      subst e
      have hlti : ((k : Int) < (k : Int)) = False := by simp
      clear hk
      go_wp2
      go_end0
      exact ⟨rfl, HR.out.2.2⟩
end Go.Proofs.Ytpfjidijecgjcaa
