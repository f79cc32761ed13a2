/- Layer 31: ArchiveDecodes: the walk. -/
import Derived.Test.YtpfjidijecgjcaaAeU
import Derived.Test.YtpfjidijecgjcaaAeD
import Derived.Test.YtpfjidijecgjcaaAeB
import Derived.Deep.DeepCutAuto
import Derived.Maps.AppendAt
namespace Go.Proofs.Ytpfjidijecgjcaa
open Go.RowKit Fl Ieee
set_option maxRecDepth 20000
attribute [local go_sem] run_store_float run_store_complex
/-- What both tell of bytes. -/
def Spec (p : List Nat) (er : Int) (acc : List SolW) : Prop := (Good p acc ∧ er = 0) ∨ ((∀ a, ¬ Good p a) ∧ er = 410 ∧ acc = [])
theorem spec_is (p : List Nat) : ∃ er acc, Spec p er acc := by
  by_cases h : ∃ acc, Good p acc
  · obtain ⟨acc, h⟩ := h
    exact ⟨0, acc, Or.inl ⟨h, rfl⟩⟩
  · exact ⟨410, [], Or.inr ⟨fun a ha => h ⟨a, ha⟩, rfl, rfl⟩⟩
theorem spec_len {p : List Nat} {er : Int} {acc : List SolW} (h : Spec p er acc) : acc.length ≤ 4096 ∧ ∀ s ∈ acc.map toM, s.vs.length ≤ 64 ∧ s.ys.length ≤ 64 := by
  rcases h with ⟨h, -⟩ | ⟨-, -, rfl⟩
  · refine ⟨h.2.1, fun s hs => ?_⟩
    obtain ⟨a, ha, rfl⟩ := List.mem_map.1 hs
    have h1 := (h.2.2 a ha).sv
    have h2 := (h.2.2 a ha).sy
    unfold toM
    simp
    omega
  · exact ⟨by simp, fun s hs => (by cases hs)⟩
theorem own_nilS (W : World) (B : Nat) : SolsOwn W B (.slice none 0 0) [] := ⟨World.ownsRow_nil _ _ _ _, fun q hq => (by cases hq), List.Pairwise.nil, fun q hq => (by cases hq)⟩
theorem row_nilS (W : World) (B : Nat) : SolsRow W B (.slice none 0 0) [] := ⟨World.ownsRow_nil _ _ _ _, fun q hq => (by cases hq), fun q hq => (by cases hq)⟩
theorem Decode_u {p : List Nat} {er : Int} {acc : List SolW} (h : Spec p er acc) (A : Option Addr) (c : Nat) (w : World) (hr : Reads w w.heap.size A (bytesV p)) (hb : okB p) (hc : p.length ≤ c) :
    Calls Try.prog 9 #[.slice A p.length c] w fun e w' => ∃ v L, e = .returned (.tuple #[v, .int .i64 er]) ∧ Below w.heap.size w w' ∧ SolsOwn w' (w.heap.size + 1) v L ∧ L.map SolV.a = acc := by
  refine (Decode_d p A c w hr hb hc).mono ?_
  rintro e w' ⟨v, er', rfl, hbel, hcase⟩
  rcases hcase with ⟨rfl, rfl, hno⟩ | ⟨rfl, L, hg, hso⟩
  · rcases h with ⟨h, -⟩ | ⟨-, rfl, rfl⟩
    · exact absurd h (hno _)
    · exact ⟨_, [], rfl, hbel, own_nilS _ _, rfl⟩
  · rcases h with ⟨h, rfl⟩ | ⟨h, -, -⟩
    · exact ⟨_, L, rfl, hbel, hso, hg.same h⟩
    · exact absurd hg (h _)
theorem rDecode_u {p : List Nat} {er : Int} {acc : List SolW} (h : Spec p er acc) (A : Option Addr) (c : Nat) (w : World) (hr : Reads w w.heap.size A (bytesV p)) (hb : okB p) (hc : p.length ≤ c) :
    Calls Try.prog 10 #[.slice A p.length c] w fun e w' => ∃ v L, e = .returned (.tuple #[v, .int .i64 er]) ∧ Below w.heap.size w w' ∧ SolsRow w' w.heap.size v L ∧ L.map SolV.a = acc := by
  refine (rDecode_c p A c w hr hb hc).mono ?_
  rintro e w' ⟨v, er', rfl, hbel, hcase⟩
  rcases hcase with ⟨rfl, rfl, hno⟩ | ⟨rfl, L, hg, hso⟩
  · rcases h with ⟨h, -⟩ | ⟨-, rfl, rfl⟩
    · exact absurd h (hno _)
    · exact ⟨_, [], rfl, hbel, row_nilS _ _, rfl⟩
  · rcases h with ⟨h, rfl⟩ | ⟨h, -, -⟩
    · exact ⟨_, L, rfl, hbel, hso, hg.same h⟩
    · exact absurd hg (h _)
theorem reads_take {W : World} {B : Nat} {A : Option Addr} {l : List Nat} (h : Reads W B A (bytesV (lentB l 6))) : Reads W B A (bytesV l) := fun hn => by
  obtain ⟨ad, e, hb, hc⟩ := h (by unfold bytesV; rw [List.length_map, lentB_len]; omega)
  refine ⟨ad, e, hb, fun j u hu => hc j u ?_⟩
  have hj := lt_of_some hu
  unfold lentB bytesV
  rw [List.map_append, List.getElem?_append_left (by simpa [bytesV] using hj)]
  exact hu
theorem SolsRow.kept {W V : World} {B g : Nat} {v : Value} {L : List SolV} (h : SolsRow W B v L) (hg : W.grownBy V (some g)) (hB : g < B) : SolsRow V B v L :=
  ⟨h.row.kept hg (.inr (fun e => by have := (h.row.lt g e).1; omega)), fun q hq => ⟨(h.own q hq).o1.kept hg (.inr (fun e => by have := ((h.own q hq).o1.lt g e).1; omega)), (h.own q hq).o2.kept hg (.inr (fun e => by have := ((h.own q hq).o2.lt g e).1; omega))⟩, h.same⟩
theorem SolsOwn.rowOf {W : World} {B : Nat} {v : Value} {L : List SolV} (h : SolsOwn W B v L) : SolsRow W B v L := ⟨h.row, h.own, h.same⟩
theorem SolsOwn.kept {W V : World} {B g : Nat} {v : Value} {L : List SolV} (h : SolsOwn W B v L) (hg : W.grownBy V (some g)) (hB : g < B) : SolsOwn V B v L :=
  ⟨(h.rowOf.kept hg hB).row, (h.rowOf.kept hg hB).own, h.apt, h.same⟩
/-- Append on a row of one's own, whatever is handed in, where a guard says so. -/
theorem wpList_append_whatever {P : Program} {w : World} {ops : Array Oper} {rest : List Oper} {o : Oper} {a : Act} {Q : Exit → Act → World → Prop} (hw : Region.wanted o (yielded ops a.tmps) = true) (s x : Operand) (t : TypeId)
    (ho : o.op = .call { callee := .builtin .append, args := #[s, x], argTypes := #[t, t] })
    (base : Nat) (e : TypeId) (i : TypeInfo) (z : Value) (size bytes : Nat) (ht : P.underlying t = some (.slice e)) (hi : P.info? e = some i) (hz : i.zero = some z)
    (hsize : i.size = size) (hby : i.bytes = bytes) (hzs : z.cells.size = size) (hsz : 0 < size)
    (v : Value) (n : Nat) (xs : List Value) (hs : a.eval s = v) (hown : w.ownsRow base e size v n xs)
    (A : Option Addr) (m c : Nat) (news : List Value) (hx : a.eval x = .slice A m c) (hnone : A = none → m = 0 ∧ c = 0) (hl : news.length = m * size) (hnews : ∀ ad, A = some ad → ∀ j u, news[j]? = some u → w.cell? (ad.add j) = some u) (h1 : ∀ u ∈ news, u.oneCell' = true)
    (h63 : n + m ≤ maxLen) (hbytes : (n + m) * bytes ≤ 140737488355328) (hbase : base ≤ w.heap.size)
    (h : ∀ v' w', w'.ownsRow base e size v' (n + m) (xs ++ news) → w.grownBy w' v.ownBlock → wpList P ops Q rest (a.put o.dst v') w') :
    wpList P ops Q (o :: rest) a w := by
  refine wpList_step fun K hK => ?_
  rw [if_pos hw]
  obtain ⟨v', w', hr, h2, h3⟩ := run_append_whatever (P := P) w base t o.type e i z size bytes ht hi hz hsize hby hzs hsz v n xs hown A m c news hnone hl hnews h1 h63 hbytes hbase
  unfold Oper.wp execOp
  simp only [ho, resolve, invoke, builtin, Sem.run_bind, Sem.run_pure, Result.andThen_ok, List.map_toArray, List.map_cons, List.map_nil, hs, hx, hr]
  exact hK _ _ (h _ _ h2 h3)
theorem flatV_one {W : World} {B : Nat} {L : List SolV} (h : ∀ q ∈ L, OwnV W B q) : ∀ u ∈ flatV L, u.oneCell' = true := fun u hu => by
  unfold flatV at hu
  obtain ⟨q, hq, hu⟩ := List.mem_flatMap.1 hu
  obtain ⟨A1, c1, e1, -, -⟩ := reads_ownN (h q hq).o1
  obtain ⟨A2, c2, e2, -, -⟩ := reads_ownN (h q hq).o2
  rcases (by simpa using hu : u = .float .f64 q.s.om ∨ u = q.x1 ∨ u = q.x2) with rfl | rfl | rfl
  · rfl
  · rw [e1]; rfl
  · rw [e2]; rfl
theorem listsV_app (L M : List SolV) : listsV (L ++ M) = listsV L ++ listsV M := by unfold listsV; rw [List.flatMap_append]
theorem flatV_app (L M : List SolV) : flatV (L ++ M) = flatV L ++ flatV M := by unfold flatV; rw [List.flatMap_append]
set_option maxHeartbeats 8000000 in
theorem Decodes_walk (p : List Nat) (A : Option Addr) (c : Nat) (w : World) (hr : Reads w w.heap.size A (bytesV p)) (hb : okB p) (hc : p.length ≤ c) (hA : A = none → c = 0) (hn : p.length ≤ 1100000) :
    Calls Try.prog 3 #[.slice A p.length c] w fun e w' => e = .returned (.bool true) ∧ Below w.heap.size w w' := by
  obtain ⟨i0, hi0, hz0, hz1, hz2⟩ := info_parts infoSol
  obtain ⟨er, acc, hsp⟩ := spec_is p
  have HSp := Lib.hid hsp
  have HR := Lib.hid hr
  have HOk := Lib.hid hb
  have HC := Lib.hid (And.intro hc (And.intro hA hn))
  have HL := Lib.hid (LentB_c A p c w (by omega) hA hr)
  obtain ⟨n, hpn⟩ : ∃ n, n = p.length := ⟨_, rfl⟩
  have HN := Lib.hid hpn
  rw [← hpn] at HL ⊢
  clear hsp hr hb hc hA hn hpn
  go_enter Try.func3, Try.ntmps3
  go_wp2_with fail
  refine HL.out.mono ?_
  rintro e W1 ⟨vf, rfl, hof, hb1⟩
  obtain ⟨g, cap, hvf, hgB, hcap⟩ : ∃ g cap, vf = .slice (some ⟨g, 0, none⟩) (n + 6) cap ∧ w.heap.size ≤ g ∧ n + 6 ≤ cap := by
    rcases hof.2 with ⟨h, h'⟩ | ⟨g, cap, cur, h, h1, h2, h3, -⟩
    · rw [lentB_len] at h'; omega
    · exact ⟨g, cap, by rw [h, lentB_len, HN.out], h1, by rw [lentB_len, ← HN.out] at h3; exact h3⟩
  subst hvf
  have hof' : W1.ownsRow w.heap.size 5 1 (.slice (some ⟨g, 0, none⟩) (n + 6) cap) (n + 6) (bytesV (lentB p 6)) := by
    have h := hof
    unfold OwnB at h
    rw [lentB_len, ← HN.out] at h
    exact h
  have HF := Lib.hid hof'
  have HRf := Lib.hid (Reads.of_own hof')
  have HG := Lib.hid (And.intro hgB ((hof'.lt g rfl).2))
  have HB1 := Lib.hid hb1
  have hDa := Decode_u HSp.out (some ⟨g, 0, none⟩) cap W1 (reads_take HRf.out) HOk.out (by rw [← HN.out]; omega)
  rw [← HN.out] at hDa
  have HDa := Lib.hid hDa
  have hc1 : (n : Int) ≤ (cap : Int) := by omega
  clear hof hof' hb1 hgB hDa HL
  go_wp2_with fail
  refine HDa.out.mono ?_
  rintro e Wa ⟨va, La, rfl, hba, hoa, hla⟩
  have hDb := Decode_u HSp.out (some ⟨g, 0, none⟩) cap Wa (reads_take ((HRf.out.below hba).more hba.size)) HOk.out (by rw [← HN.out]; omega)
  rw [← HN.out] at hDb
  have HDb := Lib.hid hDb
  have HBa := Lib.hid hba
  have HOa := Lib.hid (And.intro hoa hla)
  clear hba hoa hla hDb HDa
  go_wp2_with fail
  refine HDb.out.mono ?_
  rintro e Wb ⟨vb, Lb, rfl, hbb, hob, hlb⟩
  have HBb := Lib.hid hbb
  have HOb := Lib.hid (And.intro hob hlb)
  have HBwb := Lib.hid (show Below w.heap.size w Wb from (HB1.out.trans (HBa.out.mono HB1.out.size)).trans (hbb.mono (Nat.le_trans HB1.out.size HBa.out.size)))
  have hDr := rDecode_u HSp.out A c Wb ((HR.out.below HBwb.out).more HBwb.out.size) HOk.out HC.out.1
  rw [← HN.out] at hDr
  have HDr := Lib.hid hDr
  clear hbb hob hlb hDr HDb hc1
  go_wp2_with fail
  refine HDr.out.mono ?_
  rintro e Wr ⟨vw, Lw, rfl, hbr, how, hlw⟩
  have HBr := Lib.hid hbr
  have HOw := Lib.hid (And.intro how hlw)
  obtain ⟨S, hS⟩ : ∃ S, S = acc.map toM := ⟨_, rfl⟩
  have HSl := Lib.hid (show S.length ≤ 1000000 ∧ ∀ s ∈ S, s.vs.length ≤ 1000 ∧ s.ys.length ≤ 1000 from by
    have h := spec_len HSp.out
    rw [hS]
    exact ⟨by rw [List.length_map]; omega, fun s hs => by have := h.2 s hs; omega⟩)
  have HOar := Lib.hid (show SolsOwn Wr (W1.heap.size + 1) va La from (HOa.out.1.below HBb.out).below HBr.out)
  have HObr := Lib.hid (show SolsOwn Wr (Wa.heap.size + 1) vb Lb from HOb.out.1.below HBr.out)
  have HSa := Lib.hid (fun V (hV : Below Wr.heap.size Wr V) => sAll_t S va vw V (by rw [hS, ← HOa.out.2]; exact (HOar.out.below hV).at_) (by rw [hS, ← HOw.out.2]; exact (HOw.out.1.below hV).at_) HSl.out.1 HSl.out.2)
  have HSb := Lib.hid (fun V (hV : Below Wr.heap.size Wr V) => sAll_t S vb vw V (by rw [hS, ← HOb.out.2]; exact (HObr.out.below hV).at_) (by rw [hS, ← HOw.out.2]; exact (HOw.out.1.below hV).at_) HSl.out.1 HSl.out.2)
  have HBwr := Lib.hid (show Below w.heap.size w Wr from HBwb.out.trans (hbr.mono HBwb.out.size))
  have HB1r := Lib.hid (show Below W1.heap.size W1 Wr from (HBa.out.trans (HBb.out.mono HBa.out.size)).trans (hbr.mono (Nat.le_trans HBa.out.size HBb.out.size)))
  have HSS := Lib.hid hS
  clear hbr how hlw hS HDr
  go_wp2_with fail
  refine (HSa.out _ (Below.refl _ _)).mono ?_
  rintro e W2 ⟨rfl, hb2⟩
  have HB2 := Lib.hid hb2
  clear hb2
  go_wp2_with fail
  refine (HSb.out _ HB2.out).mono ?_
  rintro e W3 ⟨rfl, hb3⟩
  have HB3 := Lib.hid (HB2.out.trans (hb3.mono HB2.out.size))
  have hB13 : Below W1.heap.size W1 W3 := HB1r.out.trans (HB3.out.mono HB1r.out.size)
  have hBw3 : Below w.heap.size w W3 := HBwr.out.trans (HB3.out.mono HBwr.out.size)
  have hK := KeptB_t A (some ⟨g, 0, none⟩) p (n + 6) c cap W3 (by have := HC.out.2.2; omega) HC.out.2.1 ((HR.out.below hBw3).more hBw3.size) (by rw [HN.out]) ((HRf.out.below hB13).more hB13.size)
  rw [← HN.out] at hK
  have HK := Lib.hid hK
  clear hb3 hB13 hBw3 hK
  go_wp2_with fail
  refine HK.out.mono ?_
  rintro e W4 ⟨rfl, hb4⟩
  have HB4 := Lib.hid (HB3.out.trans (hb4.mono HB3.out.size))
  have hB14 : Below W1.heap.size W1 W4 := HB1r.out.trans (HB4.out.mono HB1r.out.size)
  have HOv := Lib.hid (OverB_c g cap (n + 6) w.heap.size W4 (lentB p 6) (by rw [lentB_len, HN.out]) (by have := HC.out.2.2; have := HN.out; omega) (own_below HF.out hB14))
  clear hb4 hB14 HK
  go_wp2_with fail
  refine HOv.out.mono ?_
  rintro e W5 ⟨rfl, hg5⟩
  have HOa5 := Lib.hid (show SolsOwn W5 (W1.heap.size + 1) va La from (HOar.out.below HB4.out).kept hg5 (by have := HG.out.2; omega))
  have HOb5 := Lib.hid (show SolsOwn W5 (Wa.heap.size + 1) vb Lb from (HObr.out.below HB4.out).kept hg5 (by have := HG.out.2; have := HBa.out.size; omega))
  have HOw5 := Lib.hid (show SolsRow W5 Wb.heap.size vw Lw from (HOw.out.1.below HB4.out).kept hg5 (by have h1 := HG.out.2; have h2 := HBa.out.size; have h3 := HBb.out.size; omega))
  have HSa5 := Lib.hid (sAll_t S va vw W5 (by rw [HSS.out, ← HOa.out.2]; exact HOa5.out.at_) (by rw [HSS.out, ← HOw.out.2]; exact HOw5.out.at_) HSl.out.1 HSl.out.2)
  have HB5 := Lib.hid (show Below w.heap.size w W5 from (HBwr.out.trans (HB4.out.mono HBwr.out.size)).grown hg5 (Nat.le_trans HBwr.out.size HB4.out.size) (fun k hk => by injection hk with hk; rw [← hk]; exact HG.out.1))
  have HSg := Lib.hid hg5.size
  clear hg5 HOv
  go_wp2_with fail
  refine HSa5.out.mono ?_
  rintro e W6 ⟨rfl, hb6⟩
  have HB6 := Lib.hid hb6
  obtain ⟨Ab, kb, hvb, hnb⟩ : ∃ Ab kb, vb = .slice Ab Lb.length kb ∧ (Ab = none → Lb.length = 0 ∧ kb = 0) := by
    rcases HOb5.out.row.2 with ⟨h, h'⟩ | ⟨gb, cb, cur, h, -⟩
    · exact ⟨none, 0, by rw [h, h'], fun _ => ⟨h', rfl⟩⟩
    · exact ⟨_, _, h, fun h => (by cases h)⟩
  subst hvb
  obtain ⟨lb, hlb⟩ : ∃ lb, lb = Lb.length := ⟨_, rfl⟩
  have HLb := Lib.hid hlb
  rw [← hlb]
  have HNb := Lib.hid hnb
  have HOa6 := Lib.hid (HOa5.out.below hb6)
  have HOb6 := Lib.hid (HOb5.out.below hb6)
  have HLs := Lib.hid (show La.length ≤ 4096 ∧ lb ≤ 4096 from by
    have h := (spec_len HSp.out).1
    have h1 := congrArg List.length HOa.out.2
    have h2 := congrArg List.length HOb.out.2
    rw [List.length_map] at h1 h2
    omega)
  have HSz := Lib.hid (show La.length + lb ≤ maxLen ∧ (La.length + lb) * 56 ≤ 140737488355328 from by have := HLs.out; unfold maxLen; omega)
  have HWs := Lib.hid (show W1.heap.size ≤ W6.heap.size from by
    have h2 := HB1r.out.size
    have h3 := HB4.out.size
    have h4 := HB6.out.size
    have h5 := HSg.out
    omega)
  have hna : ∀ ad, Ab = some ad → ∀ j u, (flatV Lb)[j]? = some u → W6.cell? (ad.add j) = some u := fun ad e j u hu => by
    subst e
    rcases HOb6.out.row.2 with ⟨h, -⟩ | ⟨gb, cb, cur, h, -⟩
    · cases h
    · have e2 : ad = ⟨gb, 0, none⟩ := by injection h with h; injection h
      rw [e2]
      exact HOb6.out.row.cells (g := gb) (by rw [h]; rfl) j u hu
  have HNa := Lib.hid hna
  clear hb6 hlb hnb hna
  go_wp2_with (at_builtin; refine wpList_append_whatever (by first | rfl | kernel_rfl) (.tmp 65) (.tmp 66) 24 rfl W1.heap.size 39 i0 (.agg #[.float .f64 0, .slice none 0 0, .slice none 0 0]) 3 56 Try.underlying24 hi0 hz0 hz1 hz2 rfl (by decide) _ _ _ rfl (own_base HOa6.out.row (Nat.le_succ _)) Ab lb kb (flatV Lb) rfl (fun h => by rw [HLb.out]; exact HNb.out h) (by rw [flatV_len, HLb.out]) HNa.out (flatV_one HOb6.out.own) HSz.out.1 HSz.out.2 HWs.out ?_; intro v7 W7 hown7 hg7)
  have hso : SolsOwn W7 W1.heap.size v7 (La ++ Lb) := by
    refine ⟨?_, fun q hq => ?_, ?_, fun q hq => ?_⟩
    · rw [flatV_app, List.length_append, ← HLb.out]; exact hown7
    · rcases List.mem_append.1 hq with hq | hq
      · have h := HOa6.out.own q hq
        exact ⟨own_base (own_grownT h.o1 HOa6.out.row (by decide) hg7) (Nat.le_succ _), own_base (own_grownT h.o2 HOa6.out.row (by decide) hg7) (Nat.le_succ _)⟩
      · have h := HOb6.out.own q hq
        have hb : W1.heap.size ≤ Wa.heap.size + 1 := Nat.le_trans HBa.out.size (Nat.le_succ _)
        exact ⟨own_base (own_grownT h.o1 HOa6.out.row (by decide) hg7) hb, own_base (own_grownT h.o2 HOa6.out.row (by decide) hg7) hb⟩
    · rw [listsV_app, List.pairwise_append]
      refine ⟨HOa6.out.apt, HOb6.out.apt, fun S hS S' hS' b hb e => ?_⟩
      have h1 := (listsV_lt HOa.out.1.own hS hb).2
      have h2 := (listsV_lt HOb.out.1.own hS' e).1
      omega
    · rcases List.mem_append.1 hq with hq | hq
      · exact HOa6.out.same q hq
      · exact HOb6.out.same q hq
  have hw7 : W1.heap.size ≤ W7.heap.size := Nat.le_trans HWs.out hg7.size
  have HAp := Lib.hid (ApartS_c (La ++ Lb) v7 W1.heap.size W7 hso (by rw [List.length_append, ← HLb.out]; have := HLs.out; omega) hw7 (fun q hq => by
    have h := (spec_len HSp.out).2
    have hs := hso.same q hq
    have ha : q.a ∈ acc := by
      rcases List.mem_append.1 hq with hq | hq
      · rw [← HOa.out.2]; exact List.mem_map.2 ⟨q, hq, rfl⟩
      · rw [← HOb.out.2]; exact List.mem_map.2 ⟨q, hq, rfl⟩
    have h3 := h _ (List.mem_map.2 ⟨q.a, ha, rfl⟩)
    rw [hs]
    omega))
  have HB7 := Lib.hid (show Below w.heap.size w W7 from (HB5.out.trans (HB6.out.mono HB5.out.size)).grown hg7 (Nat.le_trans HB5.out.size HB6.out.size) (fun k hk => by have h1 := (HOa6.out.row.lt k hk).1; have h2 := HB1.out.size; omega))
  clear hown7 hg7 hso hw7
  go_wp2_with fail
  refine HAp.out.mono ?_
  rintro e W8 ⟨rfl, hb8⟩
  have HB8 := Lib.hid (HB7.out.trans (hb8.mono HB1.out.size))
  go_wp2
  go_ret
  exact ⟨rfl, HB8.out⟩
end Go.Proofs.Ytpfjidijecgjcaa
