/- Layer 31: the document's reader. -/
import Derived.Test.YtpfjidijecgjcaaAeF
import Derived.Deep.DeepCutAuto
namespace Go.Proofs.Ytpfjidijecgjcaa
open Go.RowKit Fl Ieee
set_option maxRecDepth 20000
attribute [local go_sem] run_store_float run_store_complex
theorem taken_no (A : Option Addr) (L c n : Nat) (w : World) (h : L < n) :
    Calls Try.prog 41 #[.slice A L c, .int .i64 (n : Nat)] w fun e w' => e = .returned (.tuple #[.int .u64 0, .slice none 0 0, .bool false]) ∧ w = w' := by
  have h' : (L : Int) < n := by omega
  go_enter Try.func41, Try.ntmps41
  go_wp2
  go_ret3
  exact ⟨rfl, rfl⟩
def RetTk (l : List Nat) (n B : Nat) (w : World) (e : Ending) (w' : World) : Prop :=
  ∃ A' c' d, e = .returned (.tuple #[.int .u64 (valB (l.take n) : Nat), .slice A' (l.length - n) c', .bool true]) ∧ l.length - n ≤ c' ∧ Reads w B A' (bytesV (l.drop n)) ∧ w' = w.drewN d
theorem mul_add {V x : Nat} (hV : V < 72057594037927936) (hx : x < 256) : IntKind.u64.wrap (IntKind.u64.wrap (256 * (V : Int)) + IntKind.u64.wrap (x : Int)) = ((V * 256 + x : Nat) : Int) := by
  have h0 : ∀ z : Int, IntKind.u64.wrap z = z % 18446744073709551616 := fun z => by simp [IntKind.wrap, IntKind.bits, IntKind.signed]
  rw [h0, h0, h0]
  omega
theorem taken_c (A : Option Addr) (l : List Nat) (c n B : Nat) (w : World) (hr : Reads w B A (bytesV l)) (hb : okB l) (hc : l.length ≤ c) (h : n ≤ l.length) (h1 : 1 ≤ n) (hn : n ≤ 8) :
    Calls Try.prog 41 #[.slice A l.length c, .int .i64 (n : Nat)] w (RetTk l n B w) := by
  have hlt' : ¬ (l.length : Int) < n := by omega
  have hnc : (n : Int) ≤ (c : Int) := by omega
  have hn0 : ¬ (n : Int) < 0 := by omega
  obtain ⟨ad, rfl, hab, hcell⟩ := hr (by simp [bytesV]; omega)
  have HCe := Lib.hid hcell
  have HAb := Lib.hid hab
  have HLn := Lib.hid h
  have HB := Lib.hid hb
  obtain ⟨L, hL⟩ : ∃ L, L = l.length := ⟨_, rfl⟩
  have HL := Lib.hid hL
  rw [← hL] at hlt' ⊢
  clear hr hb hcell hab h hL
  go_enter Try.func41, Try.ntmps41
  go_wp2
  go_loopw [7, 8] (fun xv jv wr => ∃ j : Nat, j ≤ n ∧ jv = .int .i64 (j : Nat) ∧ xv = .int .u64 (valB (l.take j) : Nat) ∧ wr = w) (fun _ jv _ => n - (intOf jv).toNat)
  case atStart => exact ⟨0, Nat.zero_le _, rfl, rfl, rfl⟩
  case round =>
    obtain ⟨j, hj, rfl, rfl, rfl⟩ := hrel
    by_cases hjn : j < n
    · have hjn' : (j : Int) < n := by omega
      obtain ⟨x, hx⟩ := some_of_lt (l := l) (k := j) (by have := HLn.out; omega)
      have hxb := HB.out x (List.mem_of_getElem? hx)
      have hcx := HCe.out j (.int .u8 (x : Nat)) (by simp [bytesV, hx])
      have HV := Lib.hid (show valB (l.take (j + 1)) = valB (l.take j) * 256 + x from by
        have hkl := lt_of_some hx
        have e : l[j] = x := by rw [List.getElem?_eq_getElem hkl] at hx; exact Option.some.inj hx
        rw [List.take_succ_eq_append_getElem hkl, e, valB_snoc])
      have hvb : valB (l.take j) < 256 ^ j := valB_lt j _ (by rw [List.length_take]; have := HLn.out; omega) (fun c hc => HB.out c (List.mem_of_mem_take hc))
      have hv7 : valB (l.take j) < 72057594037927936 := Nat.lt_of_lt_of_le hvb (Nat.pow_le_pow_right (show 256 > 0 by decide) (show j ≤ 7 by omega))
      obtain ⟨V, hV⟩ : ∃ V, V = valB (l.take j) := ⟨_, rfl⟩
      rw [← hV] at HV hv7 ⊢
      have hor := mul_add hv7 hxb
      have hjL : (j : Int) < (L : Int) := by have h1 := HLn.out; have h2 := HL.out; omega
      clear hx hxb hvb hv7 hV hj
      go_wp2
      go_roundw
      case rel => exact ⟨j + 1, hjn, by go_num, by rw [HV.out]; first | rfl | simp, trivial⟩
      case measure => simp [intOf]; omega
    · have e : j = n := by omega
      subst e
      have HD := Lib.hid (show ∀ (A : Option Addr) (cc d : Nat), L - j ≤ cc → (0 < L - j → A = some (ad.add j)) → RetTk l j B wr (.returned (.tuple #[.int .u64 (valB (l.take j) : Nat), .slice A (L - j) cc, .bool true])) (wr.drewN d) from fun A cc d h1 h2 => by
        refine ⟨A, cc, d, by rw [HL.out], by rw [← HL.out]; exact h1, fun h0 => ?_, rfl⟩
        have hl : 0 < L - j := by rw [HL.out]; simpa [bytesV] using h0
        refine ⟨ad.add j, h2 hl, by rw [block_of_add]; exact HAb.out, fun i u hu => ?_⟩
        have hu2 : (bytesV l)[j + i]? = some u := by
          unfold bytesV at hu ⊢
          rw [List.getElem?_map, List.getElem?_drop] at hu
          rw [List.getElem?_map]; exact hu
        rw [Go.Deep.add_add]
        exact HCe.out (j + i) u hu2)
      have HLe := Lib.hid hc
      have hjL : (j : Int) ≤ (L : Int) := by have h1 := HLn.out; have h2 := HL.out; omega
      clear hc hj
      go_wp2
      go_quiet (fail)
      go_wp2
      · go_ret3
        exact HD.out _ _ _ (by have h1 := HLe.out; have h2 := HL.out; omega) (fun h => by have h1 := HLe.out; have h2 := HL.out; omega)
      · go_ret3
        exact HD.out _ _ _ (by have h1 := HLe.out; have h2 := HL.out; omega) (fun h => rfl)
theorem rowS_bad {s : RdS} {k n : Nat} (h : (rowS k s).2.2 = true) (hk : k ≤ n) : (rowS n s).2.2 = true := by
  induction n with
  | zero => rw [show k = 0 by omega] at h; exact h
  | succ n ih =>
    by_cases e : k = n + 1
    · rw [← e]; exact h
    · exact takeS_bad (ih (by omega))
theorem valB_app (a : List Nat) : ∀ b : List Nat, valB (a ++ b) = valB a * 256 ^ b.length + valB b := by
  have key : ∀ (b : List Nat) (x : Nat), b.foldl (fun x c => x * 256 + c) x = x * 256 ^ b.length + valB b := by
    intro b
    induction b with
    | nil => intro x; simp [valB]
    | cons c b ih =>
      intro x
      have e1 := ih (x * 256 + c)
      have e2 := ih c
      show b.foldl _ (x * 256 + c) = x * 256 ^ (b.length + 1) + valB (c :: b)
      have e3 : valB (c :: b) = c * 256 ^ b.length + valB b := by
        show b.foldl _ (0 * 256 + c) = _
        rw [Nat.zero_mul, Nat.zero_add]; exact e2
      rw [e1, e3, Nat.pow_succ, Nat.add_mul, Nat.add_assoc, Nat.mul_comm (256 ^ b.length) 256, Nat.mul_assoc]
  intro b
  unfold valB
  rw [List.foldl_append]
  exact key b _
theorem eight {r : List Nat} (h : 8 ≤ r.length) : valB (r.take 8) = valB (r.take 4) * 4294967296 + valB ((r.drop 4).take 4) ∧ r.drop 8 = (r.drop 4).drop 4 := by
  have e : r.take 8 = r.take 4 ++ (r.drop 4).take 4 := by rw [← List.take_add]
  refine ⟨?_, by rw [List.drop_drop]⟩
  rw [e, valB_app]
  have hl : ((r.drop 4).take 4).length = 4 := by rw [List.length_take, List.length_drop]; omega
  rw [hl]
theorem takeS8_no {r : List Nat} (h : r.length < 8) : (takeS 8 (r, false)).2.2 = true := by unfold takeS; rw [if_pos h]
theorem takeS8_ok {r : List Nat} (h : 8 ≤ r.length) : takeS 8 (r, false) = (valB (r.take 4) * 4294967296 + valB ((r.drop 4).take 4), ((r.drop 4).drop 4, false)) := by
  unfold takeS
  rw [if_neg (by show ¬ r.length < 8; omega)]
  show (valB (r.take 8), (r.drop 8, false)) = _
  rw [(eight h).1, (eight h).2]
theorem take4_lt {r : List Nat} (hb : okB r) (h : 4 ≤ r.length) : valB (r.take 4) < 4294967296 := by
  have h1 := valB_lt 4 (r.take 4) (by rw [List.length_take]; omega) (fun c hc => hb c (List.mem_of_mem_take hc))
  have e : (256 : Nat) ^ 4 = 4294967296 := by decide
  rw [e] at h1; exact h1
attribute [local go_sem] x_f32frombits
theorem rBackX_c (a b : Nat) (w : World) : Calls Try.prog 62 #[.complex .f32 a b] w (RetC (fwide a, fwide b) w) := by
  go_enter Try.func62, Try.ntmps62
  go_wp2_with fail
  refine upon_widen (by kernel_rfl) Try.underlying36 _ ?_
  intro r1 n1 h1
  go_wp2_with fail
  refine upon_widen (by kernel_rfl) Try.underlying36 _ ?_
  intro r2 n2 h2
  have H := Lib.hid (And.intro h1 h2)
  clear h1 h2
  go_wp2
  go_ret
  refine ⟨r1, r2, n1 + n2, rfl, ?_, H.out.1.2, H.out.2.2, by simp⟩
  have e1 := H.out.1.1
  have e2 := H.out.2.1
  rw [fwide_cn] at e1 e2
  rw [e1, e2]
def RetRw (n : Nat) (l : List Nat) (B : Nat) (w : World) (e : Ending) (w' : World) : Prop :=
  Below w.heap.size w w' ∧ (((rowS n (l, false)).2.2 = true ∧ e = .returned (.tuple #[.slice none 0 0, .slice none 0 0, .bool false])) ∨
    ((rowS n (l, false)).2.2 = false ∧ ∃ v zs A c, e = .returned (.tuple #[v, .slice A (rowS n (l, false)).2.1.length c, .bool true]) ∧ zs.map cnC = (rowS n (l, false)).1.map numW ∧ ltCs zs ∧ w'.ownsRow w.heap.size 60 1 v n (nums zs) ∧ (rowS n (l, false)).2.1.length ≤ c ∧ Reads w' B A (bytesV (rowS n (l, false)).2.1)))
theorem row_c (A : Option Addr) (l : List Nat) (c n B : Nat) (w : World) (hr : Reads w B A (bytesV l)) (hB : B ≤ w.heap.size) (hb : okB l) (hc : l.length ≤ c) (hn : n ≤ 256) :
    Calls Try.prog 42 #[.slice A l.length c, .int .i64 (n : Nat)] w (RetRw n l B w) := by
  obtain ⟨i0, hi0, hz0, hz1, hz2⟩ := info_parts infoNum
  have HR := Lib.hid hr
  have HB := Lib.hid hB
  have HOk := Lib.hid hb
  have HC := Lib.hid hc
  have HN := Lib.hid hn
  clear hr hB hb hc
  go_enter Try.func42, Try.ntmps42
  go_wp2
  go_loopw [0, 7, 8] (fun sv lv kv wr => ∃ (k : Nat) (zs : List C) (A' : Option Addr) (c' : Nat), k ≤ n ∧ kv = .int .i64 (k : Nat) ∧ sv = .slice A' (rowS k (l, false)).2.1.length c' ∧ Hid ((rowS k (l, false)).2.2 = false ∧ (rowS k (l, false)).2.1.length ≤ c' ∧ Reads wr B A' (bytesV (rowS k (l, false)).2.1)) ∧ Hid (zs.map cnC = (rowS k (l, false)).1.map numW ∧ ltCs zs) ∧ Hid (wr.ownsRow w.heap.size 60 1 lv k (nums zs)) ∧ Hid (Below w.heap.size w wr)) (fun _ _ kv _ => n - (intOf kv).toNat)
  case atStart => exact ⟨0, [], A, c, Nat.zero_le _, rfl, rfl, Lib.hid ⟨rfl, HC.out, HR.out⟩, Lib.hid ⟨rfl, fun z hz => by cases hz⟩, Lib.hid (World.ownsRow_nil _ _ _ _), Lib.hid (Below.refl _ _)⟩
  case round =>
    obtain ⟨k, zs, A', c', hk, rfl, rfl, HS, HZ, HO, HBl⟩ := hrel
    rename World => wr
    obtain ⟨r, hrr⟩ : ∃ r, r = (rowS k (l, false)).2.1 := ⟨_, rfl⟩
    rw [← hrr] at HS ⊢
    have hrb : okB r := by rw [hrr]; exact rowS_bytes HOk.out k
    have hst : (rowS k (l, false)).2 = (r, false) := Prod.ext hrr.symm HS.out.1
    have HSt := Lib.hid hst
    have HRb := Lib.hid hrb
    have hrd := HS.out.2.2
    by_cases hkn : k < n
    · have hkn' : (k : Int) < n := by omega
      have HNo := Lib.hid (fun (h : r.length < 8) V (hV : Below w.heap.size w V) => (show RetRw n l B w (.returned (.tuple #[.slice none 0 0, .slice none 0 0, .bool false])) V from ⟨hV, Or.inl ⟨rowS_bad (k := k + 1) (by
        show (takeS 8 (rowS k (l, false)).2).2.2 = true
        rw [HSt.out]; exact takeS8_no h) hkn, rfl⟩⟩))
      by_cases h4 : r.length < 4
      · have HT1 := Lib.hid (taken_no A' r.length c' 4 wr h4)
        have HT2 := Lib.hid (taken_no none 0 0 4 wr (by decide))
        have H8 := Lib.hid (show r.length < 8 by omega)
        clear hrr hrb hst hrd h4 hk
        go_wp2_with fail
        refine HT1.out.mono ?_
        rintro e w' ⟨rfl, rfl⟩
        go_wp2_with fail
        refine HT2.out.mono ?_
        rintro e w' ⟨rfl, rfl⟩
        go_wp2
        go_ret3
        exact HNo.out H8.out _ HBl.out
      · have HT1 := Lib.hid (taken_c A' r c' 4 B wr hrd hrb HS.out.2.1 (by omega) (by decide) (by decide))
        have HV4 := Lib.hid (take4_lt hrb (by omega))
        have HL4 := Lib.hid h4
        clear hrr hrb hst hrd h4 hk
        go_wp2_with fail
        refine HT1.out.mono ?_
        rintro e w1 ⟨A1, c1, d1, rfl, hc1, hr1, rfl⟩
        obtain ⟨L1, hL1⟩ : ∃ L1, L1 = r.length - 4 := ⟨_, rfl⟩
        rw [← hL1] at hc1 ⊢
        have hr1' : Reads (wr.drewN d1) B A1 (bytesV (r.drop 4)) := hr1
        have hl1 : (r.drop 4).length = L1 := by rw [List.length_drop, hL1]
        by_cases h8 : L1 < 4
        · have HT2 := Lib.hid (taken_no A1 L1 c1 4 (wr.drewN d1) h8)
          have H8 := Lib.hid (show r.length < 8 by omega)
          clear hL1 hr1 hr1' hl1 h8 hc1 HT1
          go_wp2_with fail
          refine HT2.out.mono ?_
          rintro e w' ⟨rfl, rfl⟩
          go_wp2
          go_ret3
          exact HNo.out H8.out _ (below_drewN HBl.out _)
        · have hT2 := taken_c A1 (r.drop 4) c1 4 B (wr.drewN d1) hr1' (fun c hc => HRb.out c (List.mem_of_mem_drop hc)) (by rw [hl1]; exact hc1) (by rw [hl1]; omega) (by decide) (by decide)
          rw [hl1] at hT2
          have HT2 := Lib.hid hT2
          have HV8 := Lib.hid (take4_lt (r := r.drop 4) (fun c hc => HRb.out c (List.mem_of_mem_drop hc)) (by rw [hl1]; omega))
          have H8 := Lib.hid (takeS8_ok (r := r) (by omega))
          have HL1 := Lib.hid (And.intro hL1 hl1)
          clear hL1 hr1 hr1' hl1 h8 hc1 hT2 HT1
          go_wp2_with fail
          refine HT2.out.mono ?_
          rintro e w2 ⟨A2, c2, d2, rfl, hc2, hr2, rfl⟩
          have HR2 := Lib.hid (And.intro hc2 hr2)
          clear hc2 hr2 HT2
          rw [World.drewN_drewN]
          obtain ⟨W1, hW1⟩ : ∃ W1, W1 = wr.drewN (d1 + d2) := ⟨_, rfl⟩
          have HO1 := Lib.hid (show W1.ownsRow w.heap.size 60 1 u7 k (nums zs) from by rw [hW1]; exact own_drewN HO.out _)
          have HBr := Lib.hid (show Below w.heap.size wr W1 from by rw [hW1]; exact below_drewN (Below.refl _ _) _)
          have hsz1 : w.heap.size ≤ W1.heap.size := Nat.le_trans HBl.out.size HBr.out.size
          rw [← hW1]
          clear hW1
          obtain ⟨re, hre⟩ : ∃ re, re = valB (r.take 4) := ⟨_, rfl⟩
          obtain ⟨im, him⟩ : ∃ im, im = valB ((r.drop 4).take 4) := ⟨_, rfl⟩
          have hre4 : re < 4294967296 := by rw [hre]; exact HV4.out
          have him4 : im < 4294967296 := by rw [him]; exact HV8.out
          rw [← hre, ← him] at H8 ⊢
          have hw1 : IntKind.u32.wrap (re : Int) = (re : Int) := by
            have h2 : IntKind.u32.wrap (re : Int) = (re : Int) % 4294967296 := by simp [IntKind.wrap, IntKind.bits, IntKind.signed]
            rw [h2]; omega
          have hw2 : IntKind.u32.wrap (im : Int) = (im : Int) := by
            have h2 : IntKind.u32.wrap (im : Int) = (im : Int) % 4294967296 := by simp [IntKind.wrap, IntKind.bits, IntKind.signed]
            rw [h2]; omega
          have HBk := Lib.hid (rBackX_c re im W1)
          have HW4 := Lib.hid (And.intro hre4 him4)
          clear hre him hre4 him4
          have hnx : rowS (k + 1) (l, false) = ((rowS k (l, false)).1 ++ [re * 4294967296 + im], ((r.drop 4).drop 4, false)) := by
            show ((rowS k (l, false)).1 ++ [(takeS 8 (rowS k (l, false)).2).1], (takeS 8 (rowS k (l, false)).2).2) = _
            rw [HSt.out, H8.out]
          have HNx := Lib.hid hnx
          have HSz := Lib.hid (show k + 1 ≤ maxLen ∧ (k + 1) * 16 ≤ 140737488355328 from by have := HN.out; unfold maxLen; omega)
          clear hnx
          go_wp2_with fail
          refine HBk.out.mono ?_
          rintro e W2' ⟨x, y, d, rfl, hxy, hx, hy, W2e⟩
          obtain ⟨W2, hW2⟩ : ∃ V, V = W2' := ⟨_, rfl⟩
          have hb2 : Below W1.heap.size W1 W2 := by rw [hW2, W2e]; exact below_drewN (Below.refl _ _) _
          rw [← hW2]
          have HO2 := Lib.hid (own_below HO1.out hb2)
          have HB2 := Lib.hid (HBr.out.trans (hb2.mono hsz1))
          have HSw := Lib.hid (Nat.le_trans hsz1 hb2.size)
          have HXy := Lib.hid (And.intro hxy (And.intro hx hy))
          have hR22 := HR2.out.2
          clear W2e hW2 hb2 hxy hx hy hw1 hw2 hsz1
          go_wp2_with (at_builtin; refine wpList_append_stays _ rfl (.tmp 46) (.tmp 49) 37 rfl w.heap.size 60 i0 (.complex .f64 0 0) 16 Try.underlying37 hi0 hz0 hz1 hz2 rfl _ _ _ rfl (HO2.out.alloc _) ⟨W2.heap.size, 0, none⟩ 1 1 [.complex .f64 x y] rfl rfl (cell_one_new _ _ _) (by intro u hu; simp at hu; subst hu; rfl) HSz.out.1 HSz.out.2 (Nat.le_trans HSw.out (below_new _ _).size) ?_; intro v' w2 hown1 hgrow1 hat1)
          have HB3 := Lib.hid ((HB2.out.trans ((below_new W2 (.cells #[.complex .f64 x y] 60)).mono HSw.out)).grown hgrow1 (Nat.le_trans HSw.out (below_new _ _).size) (fun k hk => (HO2.out.lt k hk).1))
          have HO3 := Lib.hid (show w2.ownsRow w.heap.size 60 1 v' (k + 1) (nums (zs ++ [(x, y)])) from by
            have er : nums zs ++ [.complex .f64 x y] = nums (zs ++ [(x, y)]) := by simp [nums]
            rw [← er]; exact hown1)
          have HZ3 := Lib.hid (show (zs ++ [(x, y)]).map cnC = (rowS (k + 1) (l, false)).1.map numW ∧ ltCs (zs ++ [(x, y)]) from by
            refine ⟨?_, fun z hz => ?_⟩
            · rw [HNx.out, List.map_append, List.map_append, HZ.out.1]
              congr 1
              have e1 : numW (re * 4294967296 + im) = (fwide re, fwide im) := by
                have h4 := HW4.out.2
                unfold numW
                rw [show (re * 4294967296 + im) / 4294967296 = re by omega, show (re * 4294967296 + im) % 4294967296 = im by omega]
              show [cnC (x, y)] = [numW _]
              rw [e1]
              exact congrArg (fun q => [q]) HXy.out.1
            · rcases List.mem_append.1 hz with h | h
              · exact HZ.out.2 z h
              · rw [List.mem_singleton.1 h]; exact HXy.out.2)
          have HS3 := Lib.hid (show (rowS (k + 1) (l, false)).2.2 = false ∧ (rowS (k + 1) (l, false)).2.1.length ≤ c2 ∧ Reads w2 B A2 (bytesV (rowS (k + 1) (l, false)).2.1) from by
            rw [HNx.out]
            refine ⟨rfl, ?_, ?_⟩
            · have h1 := HR2.out.1
              show ((r.drop 4).drop 4).length ≤ c2
              rw [List.length_drop, List.length_drop]
              rw [List.length_drop] at h1
              exact h1
            · exact Reads.below (w := wr) HR2.out.2 (HB3.out.mono HB.out))
          clear hown1 hgrow1 hat1 hR22
          go_roundw
          case rel => exact ⟨k + 1, zs ++ [(x, y)], A2, c2, hkn, by go_num, by rw [HNx.out, List.length_drop, List.length_drop], HS3, HZ3, HO3, Lib.hid (HBl.out.trans HB3.out)⟩
          case measure => simp [intOf]; omega
    · have e : k = n := by omega
      subst e
      have HE := Lib.hid hrr
      clear hrr hrb hst hrd hk
      go_wp2
      go_ret3
      refine ⟨HBl.out, Or.inr ⟨HS.out.1, _, zs, A', c', ?_, HZ.out.1, HZ.out.2, HO.out, ?_, ?_⟩⟩
      · rw [← HE.out]; rfl
      · rw [← HE.out]; exact HS.out.2.1
      · rw [← HE.out]; exact HS.out.2.2
end Go.Proofs.Ytpfjidijecgjcaa
