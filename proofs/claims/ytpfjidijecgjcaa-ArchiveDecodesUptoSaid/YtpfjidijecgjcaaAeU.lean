/- Layer 31: the document's Decode. -/
import Derived.Test.YtpfjidijecgjcaaAeT
import Derived.Test.YtpfjidijecgjcaaAeG
import Derived.Deep.DeepCutAuto
import Derived.Maps.AppendAt
namespace Go.Proofs.Ytpfjidijecgjcaa
open Go.RowKit Fl Ieee
set_option maxRecDepth 20000
attribute [local go_sem] run_store_float run_store_complex x_f64frombits
theorem takeS_yes {n : Nat} {r : List Nat} (h : n ≤ r.length) : takeS n (r, false) = (valB (r.take n), (r.drop n, false)) := by
  unfold takeS
  rw [if_neg (by show ¬ r.length < n; omega)]
theorem takeS_not {n : Nat} {r : List Nat} (h : r.length < n) : takeS n (r, false) = (0, (r, true)) := by
  unfold takeS
  rw [if_pos (by exact h)]
theorem rowS_bad0 {s : RdS} (h : s.2 = true) (k : Nat) : (rowS k s).2.2 = true := rowS_bad (k := 0) h (Nat.zero_le _)
theorem sol_no {r : List Nat} (h : r.length < 10) : (solS (r, false)).2.2 = true := by
  unfold solS
  simp only
  refine rowS_bad0 (rowS_bad0 ?_ _) _
  by_cases h8 : r.length < 8
  · rw [takeS_not h8]
    exact takeS_bad (takeS_bad rfl)
  · rw [takeS_yes (by omega)]
    by_cases h9 : (r.drop 8).length < 1
    · show (takeS 1 (takeS 1 (r.drop 8, false)).2).2.2 = true
      rw [takeS_not h9]
      exact takeS_bad rfl
    · show (takeS 1 (takeS 1 (r.drop 8, false)).2).2.2 = true
      rw [takeS_yes (by omega)]
      show (takeS 1 ((r.drop 8).drop 1, false)).2.2 = true
      rw [takeS_not (by rw [List.length_drop, List.length_drop] at *; omega)]
theorem sol_yes {r r1 r2 r3 : List Nat} (h : 10 ≤ r.length) (e1 : r1 = r.drop 8) (e2 : r2 = r1.drop 1) (e3 : r3 = r2.drop 1) :
    solS (r, false) = (⟨valB (r.take 8), (rowS (valB (r1.take 1)) (r3, false)).1, (rowS (valB (r2.take 1)) (rowS (valB (r1.take 1)) (r3, false)).2).1⟩, (rowS (valB (r2.take 1)) (rowS (valB (r1.take 1)) (r3, false)).2).2) := by
  have l1 : r1.length = r.length - 8 := by rw [e1, List.length_drop]
  have l2 : r2.length = r1.length - 1 := by rw [e2, List.length_drop]
  unfold solS
  simp only
  rw [takeS_yes (n := 8) (by omega), ← e1]
  simp only
  rw [takeS_yes (n := 1) (by omega), ← e2]
  simp only
  rw [takeS_yes (n := 1) (by omega), ← e3]
theorem enc_rest {p : List Nat} (hb : okB p) {l : List SolW} {n : Nat} {r : List Nat} (h : decS (takeS 2 (p, false)).1 [] (takeS 2 (p, false)).2 = (l, n, (r, false))) : p = encS l ++ r := by
  have hd := decS_ok (takeS 2 (p, false)).1 [] (takeS 2 (p, false)).2 (takeS_bytes hb) (by rw [h])
  rw [h] at hd
  obtain ⟨-, h2, h3, h4⟩ := hd
  obtain ⟨-, g2, -⟩ := takeS_ok h3 hb
  have hl : l.length = (takeS 2 (p, false)).1 := by simpa using h2
  unfold encS
  rw [hl, List.append_assoc]
  have e : l.flatMap encW ++ r = (takeS 2 (p, false)).2.1 := by simpa using h4.symm
  rw [e]; exact g2
theorem no_round {p : List Nat} {l : List SolW} {n i : Nat} {r : List Nat} (h : decS (takeS 2 (p, false)).1 [] (takeS 2 (p, false)).2 = decS (n - i) l (r, false)) (hi : i < n) (hs : (solS (r, false)).2.2 = true) : ∀ acc, ¬ Good p acc := by
  obtain ⟨m, hm⟩ : ∃ m, n - i = m + 1 := ⟨n - i - 1, by omega⟩
  rw [hm, decS_more rfl, decS_end (Or.inr hs)] at h
  exact no_bad h hs
/-- Where the document's loop stands. -/
structure InR (w : World) (p : List Nat) (W : World) (vl : Value) (i many : Nat) (L : List SolV) (A : Option Addr) (r : List Nat) (c : Nat) : Prop where
  dec : decS (takeS 2 (p, false)).1 [] (takeS 2 (p, false)).2 = decS (many - i) (L.map SolV.a) (r, false)
  len : L.length = i
  row : W.ownsRow w.heap.size 39 3 vl L.length (flatV L)
  own : ∀ q ∈ L, OwnV W w.heap.size q
  like : ∀ q ∈ L, LikeV q
  rd : Reads W w.heap.size A (bytesV r)
  fits : r.length ≤ c
  ok : okB r
  bel : Below w.heap.size w W
/-- Solutions in rows of one's own. -/
structure SolsRow (W : World) (B : Nat) (v : Value) (L : List SolV) : Prop where
  row : W.ownsRow B 39 3 v L.length (flatV L)
  own : ∀ q ∈ L, OwnV W B q
  same : ∀ q ∈ L, q.s = toM q.a
theorem SolsRow.below {W V : World} {B : Nat} {v : Value} {L : List SolV} (h : SolsRow W B v L) (hb : Below W.heap.size W V) : SolsRow V B v L :=
  ⟨own_below h.row hb, fun q hq => ⟨own_below (h.own q hq).o1 hb, own_below (h.own q hq).o2 hb⟩, h.same⟩
theorem SolsRow.at_ {W : World} {B : Nat} {v : Value} {L : List SolV} (h : SolsRow W B v L) : SolsAt W W.heap.size v ((L.map SolV.a).map toM) := by
  rw [← map_same h.same]; exact SolsAt.of h.row h.own
def RetDecR (p : List Nat) (w : World) (e : Ending) (w' : World) : Prop :=
  ∃ v er, e = .returned (.tuple #[v, .int .i64 er]) ∧ Below w.heap.size w w' ∧
    ((er = 410 ∧ v = .slice none 0 0 ∧ ∀ acc, ¬ Good p acc) ∨ (er = 0 ∧ ∃ L : List SolV, Good p (L.map SolV.a) ∧ SolsRow w' w.heap.size v L))
set_option maxHeartbeats 6400000 in
theorem rDecode_c (p : List Nat) (A : Option Addr) (c : Nat) (w : World) (hr : Reads w w.heap.size A (bytesV p)) (hb : okB p) (hc : p.length ≤ c) : Calls Try.prog 10 #[.slice A p.length c] w (RetDecR p w) := by
  obtain ⟨i0, hi0, hz0, hz1, hz2⟩ := info_parts infoSol
  obtain ⟨pn, hpn⟩ : ∃ pn, pn = p.length := ⟨_, rfl⟩
  have HPn := Lib.hid hpn
  rw [← hpn]
  have HRp := Lib.hid hr
  have HOp := Lib.hid hb
  have HNo := Lib.hid (fun V (hV : Below w.heap.size w V) (hno : ∀ acc, ¬ Good p acc) => (show RetDecR p w (.returned (.tuple #[.slice none 0 0, .int .i64 410])) V from ⟨_, _, rfl, hV, Or.inl ⟨rfl, rfl, hno⟩⟩))
  by_cases h2 : pn < 2
  · have HT := Lib.hid (taken_no A pn c 2 w h2)
    have HBd := Lib.hid (no_bad (p := p) (l := []) (n := 0) (s := (p, true)) (by rw [takeS_not (show p.length < 2 by omega)]; rfl) rfl)
    clear hr hb hc h2 hpn
    go_enter Try.func10, Try.ntmps10
    go_wp2_with fail
    refine HT.out.mono ?_
    rintro e w' ⟨rfl, rfl⟩
    go_wp2
    go_ret2
    exact HNo.out _ (Below.refl _ _) HBd.out
  · have hT := taken_c A p c 2 w.heap.size w hr hb hc (by omega) (by decide) (by decide)
    rw [← hpn] at hT
    have HT := Lib.hid hT
    obtain ⟨many, hmany⟩ : ∃ many, many = valB (p.take 2) := ⟨_, rfl⟩
    have HT2 := Lib.hid (show takeS 2 (p, false) = (many, (p.drop 2, false)) from by rw [takeS_yes (by omega), hmany])
    have hm6 : many < 65536 := by
      rw [hmany]
      have h1 := valB_lt 2 (p.take 2) (by rw [List.length_take]; omega) (fun c hc => hb c (List.mem_of_mem_take hc))
      exact h1
    have HMy := Lib.hid hmany
    have hwm : wrap64 (many : Int) = (many : Int) := by unfold wrap64; omega
    clear hr hc h2 hT hpn hmany
    go_enter Try.func10, Try.ntmps10
    go_wp2_with fail
    refine HT.out.mono ?_
    rintro e W0' ⟨A0, c0, d0, rfl, hc0, hr0, W0e⟩
    obtain ⟨W0, hW0⟩ : ∃ V, V = W0' := ⟨_, rfl⟩
    have hb0 : Below w.heap.size w W0 := by rw [hW0, W0e]; exact below_drewN (Below.refl _ _) _
    have hrd0 : Reads W0 w.heap.size A0 (bytesV (p.drop 2)) := by rw [hW0, W0e]; exact hr0
    have hpn := HPn.out
    have hmany := HMy.out
    obtain ⟨r0, hr0'⟩ : ∃ r0, r0 = p.drop 2 := ⟨_, rfl⟩
    have hl0 : r0.length = pn - 2 := by rw [hr0', List.length_drop, hpn]
    rw [← hW0, ← hmany]
    rw [← hpn, ← hl0] at hc0
    rw [← hpn, ← hl0]
    rw [← hr0'] at HT2 hrd0
    have HI0 := Lib.hid (show InR w p W0 (.slice none 0 0) 0 many [] A0 r0 c0 from
      { dec := by rw [HT2.out]; rfl
        len := rfl
        row := World.ownsRow_nil _ _ _ _
        own := fun q hq => by cases hq
        like := fun q hq => by cases hq
        rd := hrd0
        fits := hc0
        ok := by rw [hr0']; exact fun c hc => hb c (List.mem_of_mem_drop hc)
        bel := hb0 })
    clear W0e hW0 hb0 hrd0 hr0 hr0' hl0 hc0 hmany hpn hb HT
    go_wp2
    go_loopw [5, 7, 8] (fun rv lv iv wr => ∃ (i : Nat) (L : List SolV) (A' : Option Addr) (r : List Nat) (c' : Nat), i ≤ many ∧ iv = .int .i64 (i : Nat) ∧ rv = .slice A' r.length c' ∧ Hid (InR w p wr lv i many L A' r c')) (fun _ _ iv _ => many - (intOf iv).toNat)
    case atStart => exact ⟨0, [], A0, r0, c0, Nat.zero_le _, rfl, rfl, HI0⟩
    case round =>
      obtain ⟨i, L, A', r, c', hi, rfl, rfl, HI⟩ := hrel
      rename World => wr
      clear HI0
      by_cases him : i < many
      · have him' : (i : Int) < many := by omega
        have HNr := Lib.hid (fun V (hV : Below w.heap.size w V) (hs : (solS (r, false)).2.2 = true) => HNo.out V hV (no_round HI.out.dec him hs))
        have HN0 := Lib.hid him
        have HL6 := Lib.hid (show L.length < 65536 by have := HI.out.len; omega)
        have HTn := Lib.hid (fun V => taken_no none 0 0 1 V (by decide))
        clear hi
        by_cases h8 : r.length < 8
        · have HT1 := Lib.hid (taken_no A' r.length c' 8 wr h8)
          have HSn := Lib.hid (sol_no (r := r) (by omega))
          clear h8
          obtain ⟨rl, hrl⟩ : ∃ rl, rl = r.length := ⟨_, rfl⟩
          rw [← hrl] at HT1 ⊢
          clear hrl
          go_wp2_with fail
          refine HT1.out.mono ?_
          rintro e w' ⟨rfl, rfl⟩
          go_wp2_with fail
          refine (HTn.out _).mono ?_
          rintro e w' ⟨rfl, rfl⟩
          go_wp2_with fail
          refine (HTn.out _).mono ?_
          rintro e w' ⟨rfl, rfl⟩
          go_wp2
          go_ret2
          exact HNr.out _ HI.out.bel HSn.out
        · obtain ⟨r1, hr1⟩ : ∃ r1, r1 = r.drop 8 := ⟨_, rfl⟩
          have hl1 : r1.length = r.length - 8 := by rw [hr1, List.length_drop]
          have hok1 : okB r1 := by rw [hr1]; exact fun c hc => HI.out.ok c (List.mem_of_mem_drop hc)
          have HT1 := Lib.hid (taken_c A' r c' 8 w.heap.size wr HI.out.rd HI.out.ok HI.out.fits (by omega) (by decide) (by decide))
          obtain ⟨om, hom⟩ : ∃ om, om = valB (r.take 8) := ⟨_, rfl⟩
          have hom6 : om < 18446744073709551616 := by
            rw [hom]
            have h1 := valB_lt 8 (r.take 8) (by rw [List.length_take]; omega) (fun c hc => HI.out.ok c (List.mem_of_mem_take hc))
            have e : (256 : Nat) ^ 8 = 18446744073709551616 := by decide
            rw [e] at h1; exact h1
          have HR1 := Lib.hid (And.intro hr1 (And.intro hl1 hok1))
          have HOm := Lib.hid (And.intro hom hom6)
          obtain ⟨rl, hrl⟩ : ∃ rl, rl = r.length := ⟨_, rfl⟩
          have HRl := Lib.hid (show rl = r.length ∧ 8 ≤ r.length from ⟨hrl, by omega⟩)
          rw [← hrl] at HT1 ⊢
          clear hr1 hl1 hok1 hom hom6 h8 hrl
          go_wp2_with fail
          refine HT1.out.mono ?_
          rintro e V1' ⟨A1, c1, d1, rfl, hc1, hrd1, V1e⟩
          obtain ⟨V1, hV1⟩ : ∃ V, V = V1' := ⟨_, rfl⟩
          have HB1 := Lib.hid (show Below wr.heap.size wr V1 from by rw [hV1, V1e]; exact below_drewN (Below.refl _ _) _)
          have HD1 := Lib.hid (show Reads V1 w.heap.size A1 (bytesV r1) ∧ r1.length ≤ c1 from ⟨by rw [hV1, V1e, HR1.out.1]; exact hrd1, by rw [HR1.out.2.1]; exact hc1⟩)
          rw [← hV1, ← HR1.out.2.1, ← HOm.out.1]
          clear hrd1 hc1 hV1 V1e HT1
          by_cases h9 : r1.length < 1
          · have HT2 := Lib.hid (taken_no A1 r1.length c1 1 V1 h9)
            have HSn := Lib.hid (sol_no (r := r) (by have := HR1.out.2.1; omega))
            clear h9
            obtain ⟨rm, hrm⟩ : ∃ rm, rm = r1.length := ⟨_, rfl⟩
            rw [← hrm] at HT2 ⊢
            clear hrm
            go_wp2_with fail
            refine HT2.out.mono ?_
            rintro e w' ⟨rfl, rfl⟩
            go_wp2_with fail
            refine (HTn.out _).mono ?_
            rintro e w' ⟨rfl, rfl⟩
            go_wp2
            go_ret2
            exact HNr.out _ (HI.out.bel.trans (HB1.out.mono HI.out.bel.size)) HSn.out
          · obtain ⟨r2, hr2⟩ : ∃ r2, r2 = r1.drop 1 := ⟨_, rfl⟩
            have hl2 : r2.length = r1.length - 1 := by rw [hr2, List.length_drop]
            have hok2 : okB r2 := by rw [hr2]; exact fun c hc => HR1.out.2.2 c (List.mem_of_mem_drop hc)
            have HT2 := Lib.hid (taken_c A1 r1 c1 1 w.heap.size V1 HD1.out.1 HR1.out.2.2 HD1.out.2 (by omega) (by decide) (by decide))
            obtain ⟨u, hu⟩ : ∃ u, u = valB (r1.take 1) := ⟨_, rfl⟩
            have hu6 : u < 256 := by
              rw [hu]
              exact valB_lt 1 (r1.take 1) (by rw [List.length_take]; omega) (fun c hc => HR1.out.2.2 c (List.mem_of_mem_take hc))
            have HR2 := Lib.hid (And.intro hr2 (And.intro hl2 hok2))
            have HU := Lib.hid (And.intro hu hu6)
            obtain ⟨rm, hrm⟩ : ∃ rm, rm = r1.length := ⟨_, rfl⟩
            have HRm := Lib.hid (show rm = r1.length ∧ 1 ≤ r1.length from ⟨hrm, by omega⟩)
            rw [← hrm] at HT2 ⊢
            clear hr2 hl2 hok2 hu hu6 h9 hrm
            go_wp2_with fail
            refine HT2.out.mono ?_
            rintro e V2' ⟨A2, c2, d2, rfl, hc2, hrd2, V2e⟩
            obtain ⟨V2, hV2⟩ : ∃ V, V = V2' := ⟨_, rfl⟩
            have HB2 := Lib.hid (show Below wr.heap.size wr V2 from by rw [hV2, V2e]; exact below_drewN HB1.out _)
            have HD2 := Lib.hid (show Reads V2 w.heap.size A2 (bytesV r2) ∧ r2.length ≤ c2 from ⟨by rw [hV2, V2e, HR2.out.1]; exact hrd2, by rw [HR2.out.2.1]; exact hc2⟩)
            rw [← hV2, ← HR2.out.2.1, ← HU.out.1]
            clear hrd2 hc2 hV2 V2e HT2
            by_cases h10 : r2.length < 1
            · have HT3 := Lib.hid (taken_no A2 r2.length c2 1 V2 h10)
              have HSn := Lib.hid (sol_no (r := r) (by have := HR1.out.2.1; have := HR2.out.2.1; omega))
              clear h10
              obtain ⟨rn, hrn⟩ : ∃ rn, rn = r2.length := ⟨_, rfl⟩
              rw [← hrn] at HT3 ⊢
              clear hrn
              go_wp2_with fail
              refine HT3.out.mono ?_
              rintro e w' ⟨rfl, rfl⟩
              go_wp2
              go_ret2
              exact HNr.out _ (HI.out.bel.trans (HB2.out.mono HI.out.bel.size)) HSn.out
            · obtain ⟨r3, hr3⟩ : ∃ r3, r3 = r2.drop 1 := ⟨_, rfl⟩
              have hl3 : r3.length = r2.length - 1 := by rw [hr3, List.length_drop]
              have hok3 : okB r3 := by rw [hr3]; exact fun c hc => HR2.out.2.2 c (List.mem_of_mem_drop hc)
              have HT3 := Lib.hid (taken_c A2 r2 c2 1 w.heap.size V2 HD2.out.1 HR2.out.2.2 HD2.out.2 (by omega) (by decide) (by decide))
              obtain ⟨x, hx⟩ : ∃ x, x = valB (r2.take 1) := ⟨_, rfl⟩
              have hx6 : x < 256 := by
                rw [hx]
                exact valB_lt 1 (r2.take 1) (by rw [List.length_take]; omega) (fun c hc => HR2.out.2.2 c (List.mem_of_mem_take hc))
              have HR3 := Lib.hid (And.intro hr3 (And.intro hl3 hok3))
              have HX := Lib.hid (And.intro hx hx6)
              have HSy := Lib.hid (show solS (r, false) = (⟨om, (rowS u (r3, false)).1, (rowS x (rowS u (r3, false)).2).1⟩, (rowS x (rowS u (r3, false)).2).2) from by
                rw [HOm.out.1, HU.out.1, hx]
                exact sol_yes (by have := HR1.out.2.1; have := HR2.out.2.1; omega) HR1.out.1 HR2.out.1 hr3)
              obtain ⟨rn, hrn⟩ : ∃ rn, rn = r2.length := ⟨_, rfl⟩
              rw [← hrn] at HT3 ⊢
              clear hr3 hl3 hok3 hx hx6 h10
              have HRn := Lib.hid hrn
              clear hrn
              go_wp2_with fail
              refine HT3.out.mono ?_
              rintro e V3' ⟨A3, c3, d3, rfl, hc3, hrd3, V3e⟩
              obtain ⟨V3, hV3⟩ : ∃ V, V = V3' := ⟨_, rfl⟩
              have hB3 : Below wr.heap.size wr V3 := by rw [hV3, V3e]; exact below_drewN HB2.out _
              have hD3 : Reads V3 w.heap.size A3 (bytesV r3) ∧ r3.length ≤ c3 := ⟨by rw [hV3, V3e, HR3.out.1]; exact hrd3, by rw [HR3.out.2.1]; exact hc3⟩
              rw [← hV3, ← HR3.out.2.1, ← HX.out.1]
              have HB3 := Lib.hid hB3
              have HWs3 := Lib.hid (show w.heap.size ≤ V3.heap.size from Nat.le_trans HI.out.bel.size hB3.size)
              have HT4 := Lib.hid (row_c A3 r3 c3 u w.heap.size V3 hD3.1 HWs3.out HR3.out.2.2 hD3.2 (Nat.le_of_lt HU.out.2))
              have hwu : wrap64 (u : Int) = (u : Int) := by have := HU.out.2; unfold wrap64; omega
              have hwx : wrap64 (x : Int) = (x : Int) := by have := HX.out.2; unfold wrap64; omega
              have HWx := Lib.hid hwx
              obtain ⟨ro, hro⟩ : ∃ ro, ro = r3.length := ⟨_, rfl⟩
              rw [← hro] at HT4 ⊢
              clear hrd3 hc3 hV3 V3e HT3 hB3 hD3 hwx hro
              go_wp2_with fail
              refine HT4.out.mono ?_
              rintro e W4 ⟨hb4, hcase⟩
              have HB4 := Lib.hid (HB3.out.trans (hb4.mono HB3.out.size))
              clear hwu HT4
              rcases hcase with ⟨hbad, rfl⟩ | ⟨hgood, v1, zs1, A4, c4, rfl, hz1', hlt1, ho1, hc4, hrd4⟩
              · have HSn := Lib.hid (show (solS (r, false)).2.2 = true from by rw [HSy.out]; exact rowS_bad0 hbad _)
                have HT5 := Lib.hid (row_c none [] 0 x w.heap.size W4 (fun h => absurd h (by simp [bytesV])) (Nat.le_trans HWs3.out hb4.size) (fun c hc => by cases hc) (Nat.le_refl _) (Nat.le_of_lt HX.out.2))
                have hwx := HWx.out
                clear hbad hb4
                go_wp2_with fail
                refine HT5.out.mono ?_
                rintro e W5 ⟨hb5, hcase⟩
                have HB5 := Lib.hid (HB4.out.trans (hb5.mono HB4.out.size))
                clear hb5 HT5
                rcases hcase with ⟨-, rfl⟩ | ⟨-, v2, zs2, A5, c5, rfl, -, -, -, -, -⟩
                · go_wp2
                  go_ret2
                  exact HNr.out _ (HI.out.bel.trans (HB5.out.mono HI.out.bel.size)) HSn.out
                · go_wp2
                  go_ret2
                  exact HNr.out _ (HI.out.bel.trans (HB5.out.mono HI.out.bel.size)) HSn.out
              · obtain ⟨r4, hr4⟩ : ∃ r4, r4 = (rowS u (r3, false)).2.1 := ⟨_, rfl⟩
                obtain ⟨us, hus⟩ : ∃ us, us = (rowS u (r3, false)).1 := ⟨_, rfl⟩
                have hst4 : (rowS u (r3, false)).2 = (r4, false) := Prod.ext hr4.symm hgood
                have hok4 : okB r4 := by rw [hr4]; exact rowS_bytes (s := (r3, false)) HR3.out.2.2 u
                rw [hst4, ← hus] at HSy
                rw [← hr4] at hc4 hrd4 ⊢
                rw [← hus] at hz1'
                have HT5 := Lib.hid (row_c A4 r4 c4 x w.heap.size W4 hrd4 (Nat.le_trans HWs3.out hb4.size) hok4 hc4 (Nat.le_of_lt HX.out.2))
                have HUs := Lib.hid (show us.length = u ∧ (∀ y ∈ us, y < 18446744073709551616) from ⟨by rw [hus]; exact rowS_len _ _, by rw [hus]; exact rowS_lt (s := (r3, false)) HR3.out.2.2 u⟩)
                have HO1 := Lib.hid ho1
                obtain ⟨AV1, cV1, rfl, -, -, -⟩ := own_reads ho1
                have HZ1 := Lib.hid (And.intro hz1' hlt1)
                have HK4 := Lib.hid hok4
                have hwx := HWx.out
                obtain ⟨rq, hrq⟩ : ∃ rq, rq = r4.length := ⟨_, rfl⟩
                rw [← hrq] at HT5 ⊢
                clear hr4 hus hst4 hok4 hgood hz1' hlt1 ho1 hc4 hrd4 hb4 hrq
                go_wp2_with fail
                refine HT5.out.mono ?_
                rintro e W5 ⟨hb5, hcase⟩
                have HB5 := Lib.hid (HB4.out.trans (hb5.mono HB4.out.size))
                clear hwx HT5
                rcases hcase with ⟨hbad, rfl⟩ | ⟨hgood, v2, zs2, A5, c5, rfl, hz2', hlt2, ho2, hc5, hrd5⟩
                · have HSn := Lib.hid (show (solS (r, false)).2.2 = true from by rw [HSy.out]; exact hbad)
                  clear hbad hb5
                  go_wp2
                  go_ret2
                  exact HNr.out _ (HI.out.bel.trans (HB5.out.mono HI.out.bel.size)) HSn.out
                · obtain ⟨r5, hr5⟩ : ∃ r5, r5 = (rowS x (r4, false)).2.1 := ⟨_, rfl⟩
                  obtain ⟨ys, hys⟩ : ∃ ys, ys = (rowS x (r4, false)).1 := ⟨_, rfl⟩
                  have hst5 : (rowS x (r4, false)).2 = (r5, false) := Prod.ext hr5.symm hgood
                  have hok5 : okB r5 := by rw [hr5]; exact rowS_bytes (s := (r4, false)) HK4.out x
                  rw [hst5, ← hys] at HSy
                  rw [← hr5] at hc5 hrd5 ⊢
                  rw [← hys] at hz2'
                  have HYs := Lib.hid (show ys.length = x ∧ (∀ y ∈ ys, y < 18446744073709551616) from ⟨by rw [hys]; exact rowS_len _ _, by rw [hys]; exact rowS_lt (s := (r4, false)) HK4.out x⟩)
                  have HO1' := Lib.hid (own_below HO1.out hb5)
                  have HO2 := Lib.hid ho2
                  obtain ⟨AV2, cV2, rfl, -, -, -⟩ := own_reads ho2
                  have HZ2 := Lib.hid (And.intro hz2' hlt2)
                  have HK5 := Lib.hid (And.intro hok5 (And.intro hc5 hrd5))
                  have HRw5 := Lib.hid (own_below HI.out.row HB5.out)
                  have HWs5 := Lib.hid (show w.heap.size ≤ W5.heap.size from Nat.le_trans HI.out.bel.size HB5.out.size)
                  have HW45 := Lib.hid hb5.size
                  have HSz := Lib.hid (show L.length + 1 ≤ maxLen ∧ (L.length + 1) * 56 ≤ 140737488355328 from by have := HL6.out; unfold maxLen; omega)
                  obtain ⟨rp, hrp⟩ : ∃ rp, rp = r5.length := ⟨_, rfl⟩
                  have HRp5 := Lib.hid hrp
                  rw [← hrp]
                  clear hr5 hys hst5 hok5 hgood hz2' hlt2 ho2 hc5 hrd5 hb5 hrp
                  go_wp2_with (at_builtin; refine wpList_append_own_at _ rfl (.tmp 91) (.tmp 97) 24 rfl w.heap.size 39 i0 (.agg #[.float .f64 0, .slice none 0 0, .slice none 0 0]) 3 56 Try.underlying24 hi0 hz0 hz1 hz2 rfl (by decide) _ _ _ rfl (HRw5.out.alloc _) ⟨W5.heap.size, 0, none⟩ 1 1 [.float .f64 om, .slice AV1 u cV1, .slice AV2 x cV2] rfl rfl (three_new _ _ _ _ _) (by intro y hy; simp at hy; rcases hy with rfl | rfl | rfl <;> rfl) HSz.out.1 HSz.out.2 (Nat.le_trans HWs5.out (below_new _ _).size) ?_; intro v' w2 hown9 hgrow9 _ _)
                  have hb9 := below_new W5 (.cells #[.float .f64 om, .slice AV1 u cV1, .slice AV2 x cV2] 39)
                  have hrw9 := own_below HRw5.out hb9
                  have hrow : ∀ k, (Value.ownBlock _) = some k → w.heap.size ≤ k := fun k hk => (hrw9.lt k hk).1
                  have hbw2 : Below w.heap.size wr w2 := ((HB5.out.mono HI.out.bel.size).trans (hb9.mono HWs5.out)).grown hgrow9 (Nat.le_trans HWs5.out hb9.size) hrow
                  have HNew := Lib.hid (show InR w p w2 v' (i + 1) many (L ++ [⟨(solS (r, false)).1, ⟨om, zs1, zs2⟩, .slice AV1 u cV1, .slice AV2 x cV2⟩]) A5 r5 c5 from by
                    have es : solS (r, false) = (⟨om, us, ys⟩, (r5, false)) := HSy.out
                    have hlL : (L ++ [(⟨(solS (r, false)).1, ⟨om, zs1, zs2⟩, .slice AV1 u cV1, .slice AV2 x cV2⟩ : SolV)]).length = L.length + 1 := by simp
                    have hn0' := HN0.out
                    have hln1 : zs1.length = u := by rw [map_len HZ1.out.1]; exact HUs.out.1
                    have hln2 : zs2.length = x := by rw [map_len HZ2.out.1]; exact HYs.out.1
                    refine { dec := ?_, len := ?_, row := ?_, own := ?_, like := ?_, rd := ?_, fits := ?_, ok := ?_, bel := ?_ }
                    · rw [HI.out.dec]
                      obtain ⟨m, hm⟩ : ∃ m, many - i = m + 1 := ⟨many - i - 1, by omega⟩
                      rw [hm, decS_more rfl, List.map_append, es, show many - (i + 1) = m by omega]
                      rfl
                    · rw [hlL, HI.out.len]
                    · rw [hlL, flatV_snoc]; exact hown9
                    · intro q hq
                      rcases List.mem_append.1 hq with hq | hq
                      · have h := HI.out.own q hq
                        exact ⟨own_grownT (own_below (own_below h.o1 HB5.out) hb9) hrw9 (by decide) hgrow9, own_grownT (own_below (own_below h.o2 HB5.out) hb9) hrw9 (by decide) hgrow9⟩
                      · rw [List.mem_singleton.1 hq]
                        refine ⟨?_, ?_⟩
                        · show w2.ownsRow _ _ 1 _ zs1.length (nums zs1)
                          rw [hln1]
                          exact own_base (own_grownT (own_below HO1'.out hb9) hrw9 (by decide) hgrow9) HWs3.out
                        · show w2.ownsRow _ _ 1 _ zs2.length (nums zs2)
                          rw [hln2]
                          exact own_base (own_grownT (own_below HO2.out hb9) hrw9 (by decide) hgrow9) (Nat.le_trans HI.out.bel.size HB4.out.size)
                    · intro q hq
                      rcases List.mem_append.1 hq with hq | hq
                      · exact HI.out.like q hq
                      · rw [List.mem_singleton.1 hq, es]
                        refine { om := rfl, lt := HOm.out.2, vs := HZ1.out.1, ys := HZ2.out.1, lv := HZ1.out.2, ly := HZ2.out.2, bv := HUs.out.2, by' := HYs.out.2, sv := ?_, sy := ?_ }
                        · show us.length ≤ 256
                          rw [HUs.out.1]; exact Nat.le_of_lt HU.out.2
                        · show ys.length ≤ 256
                          rw [HYs.out.1]; exact Nat.le_of_lt HX.out.2
                    · exact (HK5.out.2.2.below ((hb9.mono HWs5.out))).below ((Below.refl _ _).grown hgrow9 (Nat.le_trans HWs5.out hb9.size) hrow)
                    · exact HK5.out.2.1
                    · exact HK5.out.1
                    · exact HI.out.bel.trans hbw2)
                  clear hown9 hgrow9 hb9 hrw9 hrow hbw2
                  go_wp2
                  go_roundw
                  case rel => exact ⟨i + 1, _, A5, r5, c5, HN0.out, by go_num, by rw [HRp5.out], HNew⟩
                  case measure => have := HN0.out; simp [intOf]; omega
      · have e : i = many := by omega
        have HE := Lib.hid (show decS (takeS 2 (p, false)).1 [] (takeS 2 (p, false)).2 = (L.map SolV.a, 0, (r, false)) from by
          rw [HI.out.dec, e, Nat.sub_self]; rfl)
        have HL6 := Lib.hid (show L.length < 65536 by have := HI.out.len; omega)
        have hom : ∀ s ∈ L.map SolV.s, s.om < 18446744073709551616 := fun y hy => by
          obtain ⟨q, hq, rfl⟩ := List.mem_map.1 hy
          rw [(HI.out.like q hq).om]; exact (HI.out.like q hq).lt
        have hnr : ∀ s ∈ L.map SolV.s, ∀ z ∈ s.vs ++ s.ys, Nar1 z := fun y hy z hz => by
          obtain ⟨q, hq, rfl⟩ := List.mem_map.1 hy
          have hl := HI.out.like q hq
          rcases List.mem_append.1 hz with hz | hz
          · obtain ⟨u, hu, e⟩ := map_mem hl.vs hz
            exact nar_of (hl.bv u hu) e (hl.lv z hz)
          · obtain ⟨u, hu, e⟩ := map_mem hl.ys hz
            exact nar_of (hl.by' u hu) e (hl.ly z hz)
        have hln : ∀ s ∈ L.map SolV.s, s.vs.length ≤ 100000 ∧ s.ys.length ≤ 100000 := fun y hy => by
          obtain ⟨q, hq, rfl⟩ := List.mem_map.1 hy
          have hl := HI.out.like q hq
          have h1 := map_len hl.vs
          have h2 := map_len hl.ys
          have h3 := hl.sv
          have h4 := hl.sy
          omega
        have hat := SolsAt.of HI.out.row HI.out.own
        obtain ⟨AL, cL, hlv⟩ : ∃ AL cL, u7 = .slice AL L.length cL := by
          rcases HI.out.row.2 with ⟨h, h'⟩ | ⟨g, cap, cur, h, -⟩
          · exact ⟨none, 0, by rw [h, h']⟩
          · exact ⟨_, _, h⟩
        subst hlv
        subst e
        by_cases hw : rwV (L.map SolV.s) = 0
        · have hlw : L.length ≤ 4096 ∧ wrongV (L.map SolV.s) = 0 := by
            unfold rwV at hw
            rw [List.length_map] at hw
            by_cases h4 : 4096 < L.length
            · rw [if_pos h4] at hw; exact absurd hw (by decide)
            · rw [if_neg h4] at hw; exact ⟨by omega, hw⟩
          have hla := like_all HI.out.like hlw.2
          obtain ⟨acc, hacc⟩ : ∃ acc, acc = L.map SolV.a := ⟨_, rfl⟩
          rw [← hacc] at hla HE
          rw [hla.2] at hat
          have hal : acc.length ≤ 4096 := by rw [hacc, List.length_map]; exact hlw.1
          have HEn := Lib.hid (rEncode_c acc hla.1 hal _ wr hat)
          have HAc := Lib.hid (And.intro hal hla.1)
          have HSm := Lib.hid (show ∀ q ∈ L, q.s = toM q.a from fun q hq => (HI.out.like q hq).good (hla.1 _ (by rw [hacc]; exact List.mem_map.2 ⟨q, hq, rfl⟩)))
          have HAcc := Lib.hid hacc
          have HPr := Lib.hid (enc_rest HOp.out HE.out)
          obtain ⟨ll, hll⟩ : ∃ ll, ll = L.length := ⟨_, rfl⟩
          have HLl := Lib.hid hll
          rw [← hll] at HEn ⊢
          clear hom hnr hln hat hw hlw hla hacc hal hi hll
          go_wp2_with fail
          refine HEn.out.mono ?_
          rintro e W2 ⟨vb, rfl, hob, hb2⟩
          obtain ⟨bA, bc, rfl, hbr, hbn, -⟩ := own_reads hob
          have HB2 := Lib.hid (HI.out.bel.trans (hb2.mono HI.out.bel.size))
          have HBr := Lib.hid hbr
          have HAt2 := Lib.hid (show SolsRow W2 w.heap.size (.slice AL ll cL) L from ⟨by rw [HLl.out]; exact own_below HI.out.row hb2, fun q hq => ⟨own_below (HI.out.own q hq).o1 hb2, own_below (HI.out.own q hq).o2 hb2⟩, HSm.out⟩)
          obtain ⟨en, hen⟩ : ∃ en, en = (encS acc).length := ⟨_, rfl⟩
          rw [← hen]
          have HEl := Lib.hid hen
          clear hob hbr hbn hb2 hen HEn
          by_cases hr0 : r.length = 0
          · have hpe : p = encS acc := by
              have h := HPr.out
              rw [List.eq_nil_of_length_eq_zero hr0, List.append_nil] at h
              exact h
            have hep : en = pn := by rw [HEl.out, HPn.out, hpe]
            subst hep
            have HGo := Lib.hid (show Good p acc from ⟨by rw [HE.out, List.eq_nil_of_length_eq_zero hr0], HAc.out⟩)
            have hen5 : en ≤ 5000000 := by rw [HEl.out, ← preE_all]; exact preE_len HAc.out.2 _ HAc.out.1
            have HBp := Lib.hid (show Reads W2 W2.heap.size bA (bytesV p) from by rw [hpe]; exact HBr.out)
            have HRp2 := Lib.hid (HRp.out.below HB2.out)
            have HLe := Lib.hid HPn.out
            clear hpe hr0
            go_wp2
            go_loopw [26] (fun kv wk => ∃ k d : Nat, k ≤ en ∧ kv = .int .i64 (k : Nat) ∧ wk = W2.drewN d) (fun kv _ => en - (intOf kv).toNat)
            case atStart => exact ⟨0, 0, Nat.zero_le _, rfl, rfl⟩
            case round =>
              obtain ⟨k, d, hk, rfl, rfl⟩ := hrel
              by_cases hke : k < en
              · obtain ⟨x, hx⟩ := some_of_lt (l := p) (k := k) (by rw [← HLe.out]; exact hke)
                have hxv : (bytesV p)[k]? = some (.int .u8 (x : Nat)) := by simp [bytesV, hx]
                obtain ⟨ad, rfl, _, hc1⟩ := HBp.out.at_ hxv
                obtain ⟨bd, rfl, _, hc2⟩ := HRp2.out.at_ hxv
                clear hx hxv
                go_wp2
                go_quiet (fail)
                go_wp2
                go_roundw
                case rel => exact ⟨k + 1, _, by omega, by go_num, rfl⟩
                case measure => simp [intOf]; omega
              · go_wp2
                go_ret2
                exact ⟨_, _, rfl, below_drewN HB2.out _, Or.inr ⟨rfl, L, by rw [← HAcc.out]; exact HGo.out, HAt2.out.below (below_drewN (Below.refl _ _) _)⟩⟩
          · have hne : ¬ ((en : Int) = (pn : Int)) := by
              have h1 := HEl.out
              have h2 := HPn.out
              have h3 := congrArg List.length HPr.out
              rw [List.length_append] at h3
              omega
            have HNg := Lib.hid (no_rest HE.out (by show 0 < r.length; omega))
            clear hr0
            go_wp2
            go_ret2
            exact HNo.out _ HB2.out HNg.out
        · have HEn := Lib.hid (rEncode_no (L.map SolV.s) _ wr hat (by rw [List.length_map]; have := HL6.out; omega) hom hnr hln hw)
          have HNg := Lib.hid (show ∀ acc, ¬ Good p acc from by
            by_cases h4 : 4096 < L.length
            · exact no_long HE.out (by rw [List.length_map]; exact h4)
            · refine no_wrong HE.out HI.out.like ?_
              unfold rwV at hw
              rw [List.length_map, if_neg h4] at hw
              exact hw)
          obtain ⟨ll, hll⟩ : ∃ ll, ll = L.length := ⟨_, rfl⟩
          rw [← hll] at HEn ⊢
          clear hom hnr hln hat hw hi hll
          go_wp2_with fail
          refine HEn.out.mono ?_
          rintro e W2 ⟨er, her, rfl, hb2⟩
          have HB2 := Lib.hid (HI.out.bel.trans (hb2.mono HI.out.bel.size))
          clear hb2
          go_wp2
          go_ret2
          exact HNo.out _ HB2.out HNg.out
end Go.Proofs.Ytpfjidijecgjcaa
