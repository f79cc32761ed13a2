/- Layer 31: (archive.Decode): the walk. -/
import Derived.Test.YtpfjidijecgjcaaAdF
import Derived.Deep.DeepCutAuto
import Derived.Maps.AppendAt
namespace Go.Proofs.Ytpfjidijecgjcaa
open Go.RowKit Fl Ieee
set_option maxRecDepth 20000
attribute [local go_sem] run_store_float run_store_complex x_f64frombits
/-- Where Decode's loop stands. -/
structure InD (w : World) (p : List Nat) (W : World) (vl : Value) (n : Nat) (L : List SolV) (s : RdS) : Prop where
  dec : decS (takeS 2 (p, false)).1 [] (takeS 2 (p, false)).2 = decS n (L.map SolV.a) s
  len : L.length + n = (takeS 2 (p, false)).1
  row : W.ownsRow (w.heap.size + 1) 39 3 vl L.length (flatV L)
  own : ∀ q ∈ L, OwnV W (w.heap.size + 1) q
  like : ∀ q ∈ L, LikeV q
  rdr : Rdr W w.heap.size s
  bel : Below w.heap.size w W
theorem take2_lt {p : List Nat} (hb : okB p) : (takeS 2 (p, false)).1 < 65536 := takeS_lt (n := 2) (s := (p, false)) hb
theorem Rdr.bytes {w : World} {g : Nat} {s : RdS} (h : Rdr w g s) : okB s.1 := by
  obtain ⟨_, _, _, _, _, h⟩ := h
  exact h
theorem Rdr.cells {w : World} {g : Nat} {s : RdS} (h : Rdr w g s) : ∃ A c, w.cell? ⟨g, 0, none⟩ = some (.slice A s.1.length c) ∧ w.cell? ⟨g, 1, none⟩ = some (.bool s.2) := by
  obtain ⟨A, c, hrow, -⟩ := h
  exact ⟨A, c, by rw [cell_of_row _ _ 0 _ _ _ hrow]; rfl, by rw [cell_of_row _ _ 1 _ _ _ hrow]; rfl⟩
theorem rowS_lt {s : RdS} (hb : okB s.1) : ∀ k, ∀ x ∈ (rowS k s).1, x < 18446744073709551616
  | 0, x, hx => by cases hx
  | k + 1, x, hx => by
    have hx' : x ∈ (rowS k s).1 ++ [(takeS 8 (rowS k s).2).1] := hx
    rcases List.mem_append.1 hx' with h | h
    · exact rowS_lt hb k x h
    · rw [List.mem_singleton.1 h]; exact takeS_lt (n := 8) (rowS_bytes hb k)
theorem three_new (w : World) (x0 x1 x2 : Value) (t : TypeId) : ∀ j u, [x0, x1, x2][j]? = some u → (w.alloc (.cells #[x0, x1, x2] t)).cell? ((⟨w.heap.size, 0, none⟩ : Addr).add j) = some u := by
  intro j u hj
  have hc : ∀ i v, #[x0, x1, x2][i]? = some v → (w.alloc (.cells #[x0, x1, x2] t)).cell? ⟨w.heap.size, i, none⟩ = some v := fun i v hv => by
    simp only [World.cell?, heap_alloc_new]; exact hv
  have hz : (⟨w.heap.size, 0, none⟩ : Addr).add j = ⟨w.heap.size, j, none⟩ := by unfold Addr.add; split <;> simp_all
  rw [hz]
  exact hc j u (by simpa using hj)
set_option maxHeartbeats 3200000 in
theorem Decode_c (p : List Nat) (A : Option Addr) (c : Nat) (w : World) (hr : Reads w w.heap.size A (bytesV p)) (hb : okB p) (hc : p.length ≤ c) : Calls Try.prog 9 #[.slice A p.length c] w (RetDec p w) := by
  obtain ⟨i0, hi0, hz0, hz1, hz2⟩ := info_parts infoSol
  obtain ⟨W0, hW0⟩ : ∃ W0, W0 = w.alloc (.cells #[.slice A p.length c, .bool false] 66) := ⟨_, rfl⟩
  have hb0 : Below w.heap.size w W0 := by rw [hW0]; exact below_new _ _
  have hR0 : Rdr W0 w.heap.size (p, false) := ⟨A, c, by rw [hW0, heap_alloc_new], hc, hr.below hb0, hb⟩
  have HB0 := Lib.hid hb0
  have HR0 := Lib.hid hR0
  have HT0 := Lib.hid (take_c (n := 2) W0 hR0 (by decide) (by decide))
  have HOk := Lib.hid hb
  clear hr hb hc hb0 hR0
  go_enter Try.func9, Try.ntmps9
  go_wp2_with fail
  rw [← hW0]
  clear hW0
  refine HT0.out.mono ?_
  rintro e W1 ⟨rfl, hr1, ho1⟩
  have HI0 := Lib.hid (show InD w p W1 (.slice none 0 0) (takeS 2 (p, false)).1 [] (takeS 2 (p, false)).2 from
    { dec := rfl
      len := by simp
      row := World.ownsRow_nil _ _ _ _
      own := fun q hq => by cases hq
      like := fun q hq => by cases hq
      rdr := hr1
      bel := HB0.out.trans ho1.bel })
  clear hr1 ho1
  go_wp2
  go_loopw [5, 6] (fun lv nv wr => ∃ (n : Nat) (L : List SolV) (s : RdS), nv = .int .u64 (n : Nat) ∧ Hid (InD w p wr lv n L s)) (fun _ nv _ => (intOf nv).toNat)
  case atStart => exact ⟨_, [], _, rfl, HI0⟩
  case round =>
    obtain ⟨n, L, s, rfl, HI⟩ := hrel
    rename World => wr
    have hn6 : n < 65536 := by have h1 := HI.out.len; have h2 := take2_lt HOk.out; omega
    obtain ⟨A', c', q0, q1⟩ := HI.out.rdr.cells
    obtain ⟨bad, hbad⟩ : ∃ bad, bad = s.2 := ⟨_, rfl⟩
    rw [← hbad] at q1
    have HBad := Lib.hid hbad
    clear hbad
    by_cases hn : n = 0 ∨ bad = true
    · have HE := Lib.hid (HI.out.dec.trans (decS_end (by rw [← HBad.out]; exact hn)))
      have HW := Lib.hid (fun V (hV : Below wr.heap.size wr V) => wrong_c (L.map SolV.s) u5 V (((SolsAt.of HI.out.row HI.out.own).below hV).more hV.size) (by have := HI.out.len; have := take2_lt HOk.out; rw [List.length_map]; omega) (fun y hy => by
          obtain ⟨q, hq, rfl⟩ := List.mem_map.1 hy
          rw [(HI.out.like q hq).om]; exact (HI.out.like q hq).lt) (fun y hy z hz => by
          obtain ⟨q, hq, rfl⟩ := List.mem_map.1 hy
          have hl := HI.out.like q hq
          rcases List.mem_append.1 hz with hz | hz
          · obtain ⟨u, hu, e⟩ := map_mem hl.vs hz
            exact nar_of (hl.bv u hu) e (hl.lv z hz)
          · obtain ⟨u, hu, e⟩ := map_mem hl.ys hz
            exact nar_of (hl.by' u hu) e (hl.ly z hz)) (fun y hy => by
          obtain ⟨q, hq, rfl⟩ := List.mem_map.1 hy
          have hl := HI.out.like q hq
          have h1 := map_len hl.vs
          have h2 := map_len hl.ys
          have h3 := hl.sv
          have h4 := hl.sy
          omega))
      obtain ⟨AL, cL, hlv⟩ : ∃ AL cL, u5 = .slice AL L.length cL := by
        rcases HI.out.row.2 with ⟨h, h'⟩ | ⟨g, cap, cur, h, -⟩
        · exact ⟨none, 0, by rw [h, h']⟩
        · exact ⟨_, _, h⟩
      subst hlv
      have HNo := Lib.hid (fun V (hV : Below w.heap.size w V) => (show RetDec p w (.returned (.tuple #[.slice none 0 0, .int .i64 410])) V from ⟨_, _, rfl, hV, Or.inl ⟨rfl, rfl⟩⟩))
      cases hbt : bad
      · rw [hbt] at q1 HBad hn
        have hn0 : n = 0 := by rcases hn with h | h; exact h; cases h
        subst hn0
        clear hn hn6 hbt
        by_cases hlen : s.1.length = 0
        · have hlen' : ¬ ((s.1.length : Int) > 0) := by omega
          have HLe := Lib.hid hlen
          clear hlen
          obtain ⟨sl, hsl⟩ : ∃ sl, sl = s.1.length := ⟨_, rfl⟩
          rw [← hsl] at q0 hlen'
          clear hsl
          obtain ⟨ll, hll⟩ : ∃ ll, ll = L.length := ⟨_, rfl⟩
          rw [← hll] at HW ⊢
          have HLl := Lib.hid hll
          clear hll
          by_cases h40 : (ll : Int) > 4096
          · go_wp2
            go_ret2
            exact HNo.out _ HI.out.bel
          · have H40 := Lib.hid h40
            obtain ⟨er, her⟩ : ∃ er, er = wrongV (L.map SolV.s) := ⟨_, rfl⟩
            rw [← her] at HW
            have HEr := Lib.hid her
            clear her
            go_wp2_with fail
            refine (HW.out _ (Below.refl _ _)).mono ?_
            rintro e W2 ⟨rfl, hbw⟩
            have HB2 := Lib.hid hbw
            clear hbw
            by_cases he : er = 0
            · subst he
              go_wp2
              go_ret2
              refine ⟨_, _, rfl, HI.out.bel.trans (HB2.out.mono HI.out.bel.size), Or.inr ⟨rfl, L.map SolV.a, (like_all HI.out.like HEr.out.symm).1, ?_, ?_, ?_⟩⟩
              · have h1 := H40.out
                have h2 := HLl.out
                rw [List.length_map]; omega
              · rw [← (like_all HI.out.like HEr.out.symm).2]
                show SolsAt W2 W2.heap.size (.slice AL ll cL) _
                rw [HLl.out]
                exact ((SolsAt.of HI.out.row HI.out.own).below HB2.out).more HB2.out.size
              · have h0 : s = ([], s.2) := by
                  obtain ⟨s1, s2⟩ := s
                  rw [show s1 = [] from List.eq_nil_of_length_eq_zero HLe.out]
                have h := HE.out
                rw [h0] at h
                exact back_same HOk.out h HBad.out.symm
            · go_wp2
              go_ret2
              exact HNo.out _ (HI.out.bel.trans (HB2.out.mono HI.out.bel.size))
        · have hlen' : (s.1.length : Int) > 0 := by omega
          clear hlen
          obtain ⟨sl, hsl⟩ : ∃ sl, sl = s.1.length := ⟨_, rfl⟩
          rw [← hsl] at q0 hlen'
          clear hsl
          go_wp2
          go_ret2
          exact HNo.out _ HI.out.bel
      · rw [hbt] at q1
        clear hn hn6 hbt
        by_cases hn0 : (n : Int) > 0
        · go_wp2
          go_ret2
          exact HNo.out _ HI.out.bel
        · go_wp2
          go_ret2
          exact HNo.out _ HI.out.bel
    · have hn0 : (n : Int) > 0 := by omega
      have hbf : bad = false := by cases bad; rfl; exact absurd (Or.inr rfl) hn
      subst hbf
      clear hn
      have hw1 : IntKind.u64.wrap ((n : Int) - 1) = (n : Int) - 1 := by
        have h2 : IntKind.u64.wrap ((n : Int) - 1) = ((n : Int) - 1) % 18446744073709551616 := by simp [IntKind.wrap, IntKind.bits, IntKind.signed]
        rw [h2]; omega
      have HWn := Lib.hid hw1
      have HN0 := Lib.hid (show 0 < n by omega)
      have HL6 := Lib.hid (show L.length < 65536 by have h1 := HI.out.len; have h2 := take2_lt HOk.out; omega)
      have HT1 := Lib.hid (take_c (n := 8) wr HI.out.rdr (by decide) (by decide))
      obtain ⟨t8, ht8⟩ : ∃ t8, t8 = (takeS 8 s).1 := ⟨_, rfl⟩
      obtain ⟨s1, hs1⟩ : ∃ s1, s1 = (takeS 8 s).2 := ⟨_, rfl⟩
      rw [← ht8, ← hs1] at HT1
      have HS1 := Lib.hid (And.intro ht8 hs1)
      clear ht8 hs1 hw1 hn6
      go_wp2_with fail
      refine HT1.out.mono ?_
      rintro e W1 ⟨rfl, hr1, ho1⟩
      clear HT1 q0 q1
      obtain ⟨W2, hW2⟩ : ∃ W2, W2 = W1.alloc (.cells #[.float .f64 t8, .slice none 0 0, .slice none 0 0] 39) := ⟨_, rfl⟩
      have hb2 : Below W1.heap.size W1 W2 := by rw [hW2]; exact below_new _ _
      have hr2 : Rdr W2 w.heap.size s1 := hr1.below hb2
      have hrow2 : W2.heap[W1.heap.size]? = some (.cells #[.float .f64 t8, .slice none 0 0, .slice none 0 0] 39) := by rw [hW2, heap_alloc_new]
      have hs2 : W2.heap.size = W1.heap.size + 1 := by rw [hW2]; simp
      have HO2 := Lib.hid (ho1.trans (Oth.below (Nat.le_of_lt hr1.lt) hb2))
      have HGb := Lib.hid hr1.lt
      have HR2 := Lib.hid hr2
      have HRow2 := Lib.hid hrow2
      have HSz2 := Lib.hid hs2
      have HWr := Lib.hid ho1.bel.size
      have HT2 := Lib.hid (take_c (n := 1) W2 hr2 (by decide) (by decide))
      obtain ⟨u, hu⟩ : ∃ u, u = (takeS 1 s1).1 := ⟨_, rfl⟩
      obtain ⟨s2, hs2'⟩ : ∃ s2, s2 = (takeS 1 s1).2 := ⟨_, rfl⟩
      have hu6 : u < 256 := by rw [hu]; exact takeS_lt (n := 1) hr2.bytes
      rw [← hu, ← hs2'] at HT2
      have HS2 := Lib.hid (And.intro hu hs2')
      have HU := Lib.hid hu6
      have hwu : wrap64 (u : Int) = (u : Int) := by unfold wrap64; omega
      clear hr1 ho1 hb2 hr2 hrow2 hs2 hu hs2' hu6
      go_wp2_with fail
      rw [← hW2]
      clear hW2
      refine HT2.out.mono ?_
      rintro e W3 ⟨rfl, hr3, ho3⟩
      have HR3 := Lib.hid hr3
      have HO3 := Lib.hid ho3
      have HT3 := Lib.hid (take_c (n := 1) W3 hr3 (by decide) (by decide))
      obtain ⟨x, hx⟩ : ∃ x, x = (takeS 1 s2).1 := ⟨_, rfl⟩
      obtain ⟨s3, hs3⟩ : ∃ s3, s3 = (takeS 1 s2).2 := ⟨_, rfl⟩
      have hx6 : x < 256 := by rw [hx]; exact takeS_lt (n := 1) hr3.bytes
      rw [← hx, ← hs3] at HT3
      have HS3 := Lib.hid (And.intro hx hs3)
      have HX := Lib.hid hx6
      have hwx : wrap64 (x : Int) = (x : Int) := by unfold wrap64; omega
      clear hr3 ho3 HT2 hx hs3 hx6
      go_wp2_with fail
      refine HT3.out.mono ?_
      rintro e W4 ⟨rfl, hr4, ho4⟩
      have HO4 := Lib.hid (HO3.out.trans ho4)
      have HR4 := Lib.hid hr4
      have HT4 := Lib.hid (list_c (n := u) W4 hr4 (Nat.le_of_lt HU.out))
      clear hr4 ho4 HT3
      go_wp2_with fail
      rw [hwx]
      clear hwx hwu
      refine HT4.out.mono ?_
      rintro e W5 ⟨v1, zs1, rfl, hz1', hl1, hown1, hr5, ho5⟩
      obtain ⟨A1, c1, rfl, -, -, -⟩ := own_reads hown1
      obtain ⟨s4, hs4⟩ : ∃ s4, s4 = (rowS u s3).2 := ⟨_, rfl⟩
      obtain ⟨r1, hr1⟩ : ∃ r1, r1 = (rowS u s3).1 := ⟨_, rfl⟩
      rw [← hs4] at hr5
      rw [← hr1] at hz1'
      have HS4 := Lib.hid (And.intro hr1 hs4)
      have HO5 := Lib.hid (HO4.out.trans ho5)
      have HOw1 := Lib.hid hown1
      have HZ1 := Lib.hid (And.intro hz1' hl1)
      have hrow5 : W5.heap[W1.heap.size]? = some (.cells #[.float .f64 t8, .slice none 0 0, .slice none 0 0] 39) := by
        rw [HO5.out.blk _ (by rw [HSz2.out]; omega) (by have := HGb.out; omega)]; exact HRow2.out
      have hln1 : zs1.length = u := by rw [map_len hz1', hr1]; exact rowS_len _ _
      have HLn1 := Lib.hid hln1
      have q1 : W5.cell? ⟨W1.heap.size, 1, none⟩ = some (.slice none 0 0) := by rw [cell_of_row _ _ 1 _ _ _ hrow5]; rfl
      have f1 : W5.frozen? ⟨W1.heap.size, 1, none⟩ = false := frozen_of_row _ _ 1 _ _ hrow5
      obtain ⟨W6, hW6⟩ : ∃ W6, W6 = W5.setCell ⟨W1.heap.size, 1, none⟩ (.slice A1 u c1) := ⟨_, rfl⟩
      have hput : Oth W1.heap.size W5 W6 := by rw [hW6]; exact Oth.put _ _ _ _
      have hr6 : Rdr W6 w.heap.size s4 := hr5.oth HGb.out hput
      have hrow6 : W6.heap[W1.heap.size]? = some (.cells #[.float .f64 t8, .slice A1 u c1, .slice none 0 0] 39) := by
        rw [hW6, heap_setCell_same _ _ _ _ _ _ hrow5]; rfl
      have HO6 := Lib.hid (show Oth w.heap.size wr W6 from by
        rw [hW6]; exact (HO2.out.trans HO5.out).put2 HWr.out (Nat.le_trans (Nat.le_of_lt HI.out.rdr.lt) (Nat.le_refl _)) 1 _)
      have HOw6 := Lib.hid (own_oth hown1 (show W1.heap.size < W4.heap.size by have h1 := HSz2.out; have h2 := HO4.out.bel.size; omega) hput)
      have HRow6 := Lib.hid hrow6
      have HT5 := Lib.hid (list_c (n := x) W6 hr6 (Nat.le_of_lt HX.out))
      have HPut := Lib.hid hput
      clear hr6 hrow6 hrow5 hput hr5 ho5 hown1 hln1 hs4 hr1 hz1' hl1 HT4
      go_wp2_with fail
      rw [← hW6]
      clear hW6 q1 f1
      refine HT5.out.mono ?_
      rintro e W7 ⟨v2, zs2, rfl, hz2', hl2, hown2, hr7, ho7⟩
      obtain ⟨A2, c2, rfl, -, -, -⟩ := own_reads hown2
      obtain ⟨s5, hs5⟩ : ∃ s5, s5 = (rowS x s4).2 := ⟨_, rfl⟩
      obtain ⟨r2, hr2⟩ : ∃ r2, r2 = (rowS x s4).1 := ⟨_, rfl⟩
      rw [← hs5] at hr7
      rw [← hr2] at hz2'
      have HS5 := Lib.hid (And.intro hr2 hs5)
      have HZ2 := Lib.hid (And.intro hz2' hl2)
      have HLn2 := Lib.hid (show zs2.length = x from by rw [map_len hz2', hr2]; exact rowS_len _ _)
      have hl5 : W1.heap.size < W6.heap.size := by have h1 := HSz2.out; have h2 := HO4.out.bel.size; have h3 := HO5.out.bel.size; have h4 := HPut.out.bel.size; omega
      have hrow7 : W7.heap[W1.heap.size]? = some (.cells #[.float .f64 t8, .slice A1 u c1, .slice none 0 0] 39) := by
        rw [ho7.blk _ hl5 (by have := HGb.out; omega)]; exact HRow6.out
      have q2 : W7.cell? ⟨W1.heap.size, 2, none⟩ = some (.slice none 0 0) := by rw [cell_of_row _ _ 2 _ _ _ hrow7]; rfl
      have f2 : W7.frozen? ⟨W1.heap.size, 2, none⟩ = false := frozen_of_row _ _ 2 _ _ hrow7
      obtain ⟨W8, hW8⟩ : ∃ W8, W8 = W7.setCell ⟨W1.heap.size, 2, none⟩ (.slice A2 x c2) := ⟨_, rfl⟩
      have hput2 : Oth W1.heap.size W7 W8 := by rw [hW8]; exact Oth.put _ _ _ _
      have HR8 := Lib.hid (hr7.oth HGb.out hput2)
      have hrow8 : W8.heap[W1.heap.size]? = some (.cells #[.float .f64 t8, .slice A1 u c1, .slice A2 x c2] 39) := by
        rw [hW8, heap_setCell_same _ _ _ _ _ _ hrow7]; rfl
      have p0 : W8.cell? ⟨W1.heap.size, 0, none⟩ = some (.float .f64 t8) := by rw [cell_of_row _ _ 0 _ _ _ hrow8]; rfl
      have p1 : W8.cell? ⟨W1.heap.size, 1, none⟩ = some (.slice A1 u c1) := by rw [cell_of_row _ _ 1 _ _ _ hrow8]; rfl
      have p2 : W8.cell? ⟨W1.heap.size, 2, none⟩ = some (.slice A2 x c2) := by rw [cell_of_row _ _ 2 _ _ _ hrow8]; rfl
      have hwl : wr.heap.size ≤ W1.heap.size := HWr.out
      have HO8 := Lib.hid (show Oth w.heap.size wr W8 from by
        rw [hW8]; exact (HO6.out.trans ho7).put2 hwl (Nat.le_of_lt HI.out.rdr.lt) 2 _)
      have hg4 : w.heap.size < W4.heap.size := by have h1 := HSz2.out; have h2 := HO4.out.bel.size; have h3 := HGb.out; omega
      have hg6 : w.heap.size < W6.heap.size := by have h3 := HGb.out; omega
      have hb4 : W1.heap.size < W4.heap.size := by have h1 := HSz2.out; have h2 := HO4.out.bel.size; omega
      have HOw8 := Lib.hid (And.intro (own_oth (own_oth HOw6.out hg4 ho7) hb4 hput2) (own_oth hown2 hl5 hput2))
      have HRw8 := Lib.hid (own_othN HI.out.row (Nat.lt_succ_self _) HO8.out)
      have HQs8 := Lib.hid (fun q (hq : q ∈ L) => (OwnV.mk (own_othN (HI.out.own q hq).o1 (Nat.lt_succ_self _) HO8.out) (own_othN (HI.out.own q hq).o2 (Nat.lt_succ_self _) HO8.out)))
      have HB48 := Lib.hid (And.intro hg4 hg6)
      clear hrow7 hrow8 hput2 hr7 ho7 hown2 hs5 hr2 hz2' hl2 HT5 hl5 hwl hg4 hg6 hb4
      go_upto_region 10 with fail
      rw [← hW8]
      clear hW8 q2 f2
      have HSz := Lib.hid (show L.length + 1 ≤ maxLen ∧ (L.length + 1) * 56 ≤ 140737488355328 from by have := HL6.out; unfold maxLen; omega)
      have HBs := Lib.hid (show w.heap.size + 1 ≤ W8.heap.size from Nat.le_trans HI.out.rdr.lt HO8.out.bel.size)
      go_wp2_with (at_builtin; refine wpList_append_own_at _ rfl (.tmp 44) (.tmp 46) 24 rfl (w.heap.size + 1) 39 i0 (.agg #[.float .f64 0, .slice none 0 0, .slice none 0 0]) 3 56 Try.underlying24 hi0 hz0 hz1 hz2 rfl (by decide) _ _ _ rfl (HRw8.out.alloc _) ⟨W8.heap.size, 0, none⟩ 1 1 [.float .f64 t8, .slice A1 u c1, .slice A2 x c2] rfl rfl (three_new _ _ _ _ _) (by intro y hy; simp at hy; rcases hy with rfl | rfl | rfl <;> rfl) HSz.out.1 HSz.out.2 (Nat.le_trans HBs.out (below_new _ _).size) ?_; intro v' w2 hown9 hgrow9 _ _)
      have hb9 := below_new W8 (.cells #[.float .f64 t8, .slice A1 u c1, .slice A2 x c2] 39)
      have hrw9 := own_below HRw8.out hb9
      have hrow : ∀ k, (Value.ownBlock _) = some k → w.heap.size + 1 ≤ k := fun k hk => (hrw9.lt k hk).1
      have HNew := Lib.hid (show InD w p w2 v' (n - 1) (L ++ [⟨(solS s).1, ⟨t8, zs1, zs2⟩, .slice A1 u c1, .slice A2 x c2⟩]) (solS s).2 from by
        have k1 := HS1.out
        have k2 := HS2.out
        have k3 := HS3.out
        have k4 := HS4.out
        have k5 := HS5.out
        have es : (solS s) = (⟨t8, r1, r2⟩, s5) := by
          unfold solS
          simp only
          rw [← k1.1, ← k1.2, ← k2.1, ← k2.2, ← k3.1, ← k3.2, ← k4.1, ← k4.2, ← k5.1, ← k5.2]
        have hbf : s.2 = false := HBad.out.symm
        have hb1 : okB s1.1 := by rw [k1.2]; exact takeS_bytes HI.out.rdr.bytes
        have hb2 : okB s2.1 := by rw [k2.2]; exact takeS_bytes hb1
        have hb3 : okB s3.1 := by rw [k3.2]; exact takeS_bytes hb2
        have hb4 : okB s4.1 := by rw [k4.2]; exact rowS_bytes hb3 _
        have hlL : (L ++ [(⟨(solS s).1, ⟨t8, zs1, zs2⟩, .slice A1 u c1, .slice A2 x c2⟩ : SolV)]).length = L.length + 1 := by simp
        have hn0' := HN0.out
        refine { dec := ?_, len := ?_, row := ?_, own := ?_, like := ?_, rdr := ?_, bel := ?_ }
        · rw [HI.out.dec]
          obtain ⟨m, hm⟩ : ∃ m, n = m + 1 := ⟨n - 1, by omega⟩
          rw [hm, decS_more hbf, List.map_append]
          rfl
        · rw [hlL, ← HI.out.len]; omega
        · rw [hlL, flatV_snoc]; exact hown9
        · intro q hq
          rcases List.mem_append.1 hq with hq | hq
          · have h := HQs8.out q hq
            exact ⟨own_grownT (own_below h.o1 hb9) hrw9 (by decide) hgrow9, own_grownT (own_below h.o2 hb9) hrw9 (by decide) hgrow9⟩
          · rw [List.mem_singleton.1 hq]
            have h := HOw8.out
            refine ⟨?_, ?_⟩
            · show w2.ownsRow _ _ 1 _ zs1.length (nums zs1)
              rw [HLn1.out]
              exact own_base (own_grownT (own_below h.1 hb9) hrw9 (by decide) hgrow9) HB48.out.1
            · show w2.ownsRow _ _ 1 _ zs2.length (nums zs2)
              rw [HLn2.out]
              exact own_base (own_grownT (own_below h.2 hb9) hrw9 (by decide) hgrow9) HB48.out.2
        · intro q hq
          rcases List.mem_append.1 hq with hq | hq
          · exact HI.out.like q hq
          · rw [List.mem_singleton.1 hq, es]
            refine { om := rfl, lt := ?_, vs := HZ1.out.1, ys := HZ2.out.1, lv := HZ1.out.2, ly := HZ2.out.2, bv := ?_, by' := ?_, sv := ?_, sy := ?_ }
            · show t8 < _
              rw [k1.1]; exact takeS_lt (n := 8) HI.out.rdr.bytes
            · show ∀ y ∈ r1, _
              rw [k4.1]; exact rowS_lt hb3 _
            · show ∀ y ∈ r2, _
              rw [k5.1]; exact rowS_lt hb4 _
            · show r1.length ≤ 256
              rw [k4.1, rowS_len]; exact Nat.le_of_lt HU.out
            · show r2.length ≤ 256
              rw [k5.1, rowS_len]; exact Nat.le_of_lt HX.out
        · rw [es]
          exact (HR8.out.below hb9).grown hgrow9 (Nat.lt_succ_self _) hrow
        · exact ((HI.out.bel.trans HO8.out.bel).trans (hb9.mono (Nat.le_trans (Nat.le_succ _) HBs.out))).grown hgrow9 (Nat.le_trans (Nat.le_trans (Nat.le_succ _) HBs.out) hb9.size) (fun k hk => Nat.le_trans (Nat.le_succ _) (hrow k hk)))
      clear hown9 hgrow9 hb9 hrw9 hrow p0 p1 p2
      rw [HWn.out]
      go_roundw
      case rel => exact ⟨n - 1, _, _, by have := HN0.out; go_num, HNew⟩
      case measure => have := HN0.out; simp [intOf]; omega
end Go.Proofs.Ytpfjidijecgjcaa
