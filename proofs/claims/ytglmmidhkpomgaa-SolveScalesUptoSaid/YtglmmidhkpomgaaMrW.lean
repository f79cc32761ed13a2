/- Layer 10: SolveMirrors: the walk. -/
import Derived.Test.YtglmmidhkpomgaaT19
namespace Go.Proofs.Ytglmmidhkpomgaa
open Go.RowKit Fl Ieee
set_option maxRecDepth 20000
attribute [local go_sem] run_store_float run_store_complex Fl.order_self Fl.order_self' Fl.order_eq Fl.order_ne Fl.order_lt Fl.order_gt Fl.fle_fold Fl.fge_fold
/-- Eliminations, rows and lists that are kept while the world grows. -/
structure Km (w W : World) (es : List (Nat × Nat × Nat × El)) (rs : List (Nat × Obj)) (ls : List (Option Addr × List Value)) : Prop where
  bel : Below w.heap.size w W
  e : ∀ t ∈ es, Has9 W t.1 t.2.1 t.2.2.1 t.2.2.2
  r : ∀ t ∈ rs, W.heap[t.1]? = some t.2
  l : ∀ t ∈ ls, Reads W W.heap.size t.1 t.2
namespace Km
variable {w W V : World} {es : List (Nat × Nat × Nat × El)} {rs : List (Nat × Obj)} {ls : List (Option Addr × List Value)}
theorem below (h : Km w W es rs ls) (hb : Below W.heap.size W V) : Km w V es rs ls :=
  ⟨h.bel.trans (hb.mono h.bel.size), fun t ht => (h.e t ht).below hb, fun t ht => row_keep hb (h.r t ht), fun t ht => ((h.l t ht).below hb).more hb.size⟩
theorem new (h : Km w W es rs ls) (o : Obj) : Km w (W.alloc o) es rs ls := h.below (below_new W o)
theorem add {B b n : Nat} {S : El} (h : Km w W es rs ls) (h9 : Has9 W B b n S) : Km w W ((B, b, n, S) :: es) rs ls := ⟨h.bel, fun t ht => by
  rcases List.mem_cons.1 ht with rfl | ht
  · exact h9
  · exact h.e t ht, h.r, h.l⟩
theorem addR {b : Nat} {o : Obj} (h : Km w W es rs ls) (hr : W.heap[b]? = some o) : Km w W es ((b, o) :: rs) ls := ⟨h.bel, h.e, fun t ht => by
  rcases List.mem_cons.1 ht with rfl | ht
  · exact hr
  · exact h.r t ht, h.l⟩
theorem addL {A : Option Addr} {xs : List Value} (h : Km w W es rs ls) (hr : Reads W W.heap.size A xs) : Km w W es rs ((A, xs) :: ls) := ⟨h.bel, h.e, h.r, fun t ht => by
  rcases List.mem_cons.1 ht with rfl | ht
  · exact hr
  · exact h.l t ht⟩
theorem get {B b n : Nat} {S : El} (h : Km w W es rs ls) (i : Nat) (hi : es[i]? = some (B, b, n, S)) : Has9 W B b n S := h.e _ (List.mem_of_getElem? hi)
theorem row {b : Nat} {o : Obj} (h : Km w W es rs ls) (i : Nat) (hi : rs[i]? = some (b, o)) : W.heap[b]? = some o := h.r _ (List.mem_of_getElem? hi)
theorem rd {A : Option Addr} {xs : List Value} (h : Km w W es rs ls) (i : Nat) (hi : ls[i]? = some (A, xs)) : Reads W W.heap.size A xs := h.l _ (List.mem_of_getElem? hi)
theorem fault {b : Nat} {x y : Value} (h : Km w W es rs ls) (i : Nat) (hi : rs[i]? = some (b, .cells #[x, y] 27)) : W.cell? ⟨b, 0, none⟩ = some x ∧ W.cell? ⟨b, 1, none⟩ = some y :=
  ⟨by rw [cell_of_row W b 0 _ _ _ (h.row i hi)]; rfl, by rw [cell_of_row W b 1 _ _ _ (h.row i hi)]; rfl⟩
end Km
theorem sol_own {er : Int} {l : List C} {w w' : World} {e : Ending} (h : RetSol er l w e w') : ∃ A c, e = .returned (.tuple #[.slice A l.length c, .int .i64 er]) ∧ Reads w' w'.heap.size A (nums l) ∧ Below w.heap.size w w' := by
  obtain ⟨s, rfl, hown, hb⟩ := h
  obtain ⟨A, c, rfl, hrd, -, -⟩ := own_reads hown
  exact ⟨A, c, rfl, hrd, hb⟩
set_option maxHeartbeats 16000000 in
theorem Mirrors10 (n : Int) (A : Option Addr) (l : List C) (cap : Nat) (B : Option Addr) (x : List C) (capx : Nat) (w : World) (hr : Reads w w.heap.size A (zcells l)) (hlt : ltCs l) (hrx : Reads w w.heap.size B (zcells x)) (hltx : ltCs x) (hx : x.length ≤ 1000000) :
    Calls Try.prog 5 #[.int .i64 n, .slice A l.length cap, .slice B x.length capx] w fun e w' => e = .returned (.bool true) ∧ Below w.heap.size w w' := by
  obtain ⟨m, hm⟩ : ∃ m : Int, m = n % 17 := ⟨_, rfl⟩
  have hP := Lib.hid (fun W => Pick_c n 17 (by omega) (by omega) W)
  rw [← hm] at hP
  have HLx := Lib.hid hltx
  have HXl := Lib.hid hx
  have HSq := Lib.hid (fun (V : World) (hV : Reads V V.heap.size A (zcells l)) => Square_c m A l cap V hV)
  have K0 := Lib.hid (show Km w w [] [] [(A, zcells l), (B, zcells x)] from ⟨Below.refl _ _, fun _ h => (List.not_mem_nil h).elim, fun _ h => (List.not_mem_nil h).elim, fun t ht => by
    simp only [List.mem_cons, List.not_mem_nil, or_false] at ht
    rcases ht with rfl | rfl
    · exact hr
    · exact hrx⟩)
  obtain ⟨N, hN⟩ : ∃ N, N = sqN m := ⟨_, rfl⟩
  have hN64 : N ≤ 64 := by rw [hN]; exact sqN_le m
  obtain ⟨M, hM⟩ : ∃ M, M = N * N := ⟨_, rfl⟩
  have hM4 : M ≤ 4096 := by rw [hM]; exact prod_small hN64 hN64
  obtain ⟨L, hL⟩ : ∃ L, L = sqL l M := ⟨_, rfl⟩
  rw [← hN, ← hM, ← hL] at HSq
  have hLM : L.length = M := by rw [hL]; exact sqL_len _ _
  have hLL : L.length = N * N := by rw [hLM, hM]
  have hLt : ltCs L := by rw [hL]; exact sqL_lt hlt _
  obtain ⟨hmF, hmM⟩ := of_mirror hN64 hLL hLt
  have HLM := Lib.hid hLM
  have HLt := Lib.hid hLt
  have HN64 := Lib.hid hN64
  have HCj := Lib.hid (fun (A : Option Addr) (c : Nat) (V : World) (h2 : Reads V V.heap.size A (nums L)) => (show Calls Try.prog 31 #[mval N N (.slice A M c)] V (RetMs N N (conjB L) V) from by rw [← hLM]; exact ConjMatrix_c N N A L c V (by omega) h2))
  obtain ⟨f1, f2, hf⟩ : ∃ f1 f2, ofF N N L = (f1, f2) := ⟨_, _, rfl⟩
  have HOf := Lib.hid (fun (A : Option Addr) (c : Nat) (V : World) (h1 : M ≤ c) (h2 : Reads V V.heap.size A (nums L)) => (show Calls Try.prog 9 #[mval N N (.slice A M c)] V (RetOf (f1, f2) N (ofS N L) V) from by
    rw [← hLM, ← hf] at *; exact Of_c N N A L c V h1 h2 hLt))
  have HOg := Lib.hid (fun (A : Option Addr) (c : Nat) (V : World) (h1 : M ≤ c) (h2 : Reads V V.heap.size A (nums (conjB L))) => (show Calls Try.prog 9 #[mval N N (.slice A M c)] V (RetOf (f1, f2) N (ofS N (conjB L)) V) from by
    rw [← hf, ← hmF]; rw [← hLM, ← conjB_len L] at h1 ⊢; exact Of_c N N A (conjB L) c V h1 h2 (conjB_lt hLt)))
  have HFf := Lib.hid hf
  have HFm := Lib.hid hmM
  have HLLn := Lib.hid hLL
  clear hr hlt hrx hltx hx hm hN hM hL hLM hLL hLt hmF hmM hf hN64
  go_enter Try.func5, Try.ntmps5
  go_wp2_with fail
  refine (awake10_c w).mono ?_
  rintro e W1 ⟨rfl, hb⟩
  have K1 := Lib.hid (K0.out.below hb)
  clear hb K0
  go_wp2_with fail
  refine (hP.out _).mono ?_
  rintro e w' ⟨rfl, rfl⟩
  go_wp2_with fail
  refine (HSq.out _ (K1.out.rd 0 rfl)).mono ?_
  rintro e W2 hr
  obtain ⟨A1, c1, rfl, hrd, hle, -, -, hb⟩ := hr.lies
  rw [HLM.out] at hle ⊢
  have K2 := Lib.hid ((((K1.out.below hb).addL hrd).new (.cells #[.int .i64 (N : Nat), .int .i64 (N : Nat), .slice A1 M c1] 32)).addR (heap_alloc_new W2 (.cells #[.int .i64 (N : Nat), .int .i64 (N : Nat), .slice A1 M c1] 32)))
  have HLe := Lib.hid hle
  clear hr hrd hle hb K1 hP
  by_cases h0 : f1 = 0
  · subst h0
    obtain ⟨hfin, hf0, hrun⟩ := of_fin HN64.out HLLn.out (by rw [HFf.out])
    have h2 : f2 = 0 := by have h3 := HFf.out; rw [hf0] at h3; exact (Prod.mk.inj h3).2.symm
    subst h2
    have hMir := HFm.out (by rw [HFf.out])
    have hdg := run_diag (n := N) (S := S0 L N) (matE_fin HLLn.out hfin) N (Nat.le_refl _) hrun
    obtain ⟨S, hS⟩ : ∃ S, S = ofS N L := ⟨_, rfl⟩
    obtain ⟨S', hS'⟩ : ∃ S', S' = ofS N (conjB L) := ⟨_, rfl⟩
    have hdS : ∀ i, i < N → pZero (S.E i i) = false := by rw [hS]; unfold ofS; simp only [Int.toNat_natCast]; exact hdg
    have hPerm : Perm N S.o := by rw [hS]; exact of_perm
    rw [← hS, ← hS'] at hMir
    have HOf1 := Lib.hid (fun A c V h1 h2 => (HOf.out A c V h1 h2).mono fun e w' h => h.ok rfl)
    have HOg1 := Lib.hid (fun A c V h1 h2 => (HOg.out A c V h1 h2).mono fun e w' h => h.ok rfl)
    rw [← hS] at HOf1
    rw [← hS'] at HOg1
    have HPerm := Lib.hid hPerm
    have HPerm' := Lib.hid (show Perm N S'.o by rw [hMir.o]; exact hPerm)
    have HMir := Lib.hid hMir
    have HdS := Lib.hid hdS
    have HB := Lib.hid (mirB hMir hdS hPerm HLx.out)
    clear hfin hf0 hrun hMir hdg hS hS' hdS hPerm HOf HOg HFf HFm HLLn
    go_wp2_with fail
    refine (HOf1.out _ _ _ HLe.out (K2.out.rd 0 rfl)).mono ?_
    rintro e W3 ⟨b1, rfl, h9, hb⟩
    have K3 := Lib.hid ((((K2.out.below hb).add h9).new (.cells #[.int .i64 0, .int .i64 0] 27)).addR (heap_alloc_new W3 (.cells #[.int .i64 0, .int .i64 0] 27)))
    obtain ⟨x0, x1, x2, -⟩ := box3 (K3.out.row 1 rfl)
    clear h9 hb K2
    go_wp2_with fail
    refine (HCj.out _ _ _ (K3.out.rd 0 rfl)).mono ?_
    rintro e W4 hr
    obtain ⟨A4, c4, rfl, hrd, hle, -, -, hb⟩ := hr.lies
    rw [conjB_len, HLM.out] at hle ⊢
    have K4 := Lib.hid ((K3.out.below hb).addL hrd)
    have HLe4 := Lib.hid hle
    clear hr hrd hle hb K3 x0 x1 x2
    go_wp2_with fail
    refine (HOg1.out _ _ _ HLe4.out (K4.out.rd 0 rfl)).mono ?_
    rintro e W5 ⟨b2, rfl, h9, hb⟩
    have K5 := Lib.hid ((((K4.out.below hb).add h9).new (.cells #[.int .i64 0, .int .i64 0] 27)).addR (heap_alloc_new W5 (.cells #[.int .i64 0, .int .i64 0] 27)))
    obtain ⟨fa, fb⟩ := K5.out.fault 1 rfl
    clear h9 hb K4
    go_wp2_with fail
    refine (Numbers_c B x capx _ HXl.out (K5.out.rd 3 rfl)).mono ?_
    rintro e W6 ⟨s, rfl, hown, hb⟩
    obtain ⟨Ab, kb, rfl, hrb, -, -⟩ := own_reads hown
    have K6 := Lib.hid ((K5.out.below hb).addL hrb)
    clear hown hb hrb K5 fa fb
    obtain ⟨E1, hE1⟩ : ∃ E, E = mErr (solOk N S x) N x := ⟨_, rfl⟩
    obtain ⟨E2, hE2⟩ : ∃ E, E = mErr (traOk N S x) N x := ⟨_, rfl⟩
    obtain ⟨l1, hl1⟩ : ∃ l, l = mLst (solOk N S x) N x (solL N S x) := ⟨_, rfl⟩
    obtain ⟨l3, hl3⟩ : ∃ l, l = mLst (traOk N S x) N x (traL N S x) := ⟨_, rfl⟩
    obtain ⟨l2, hl2⟩ : ∃ l, l = mLst (solOk N S' (conjB x)) N (conjB x) (solL N S' (conjB x)) := ⟨_, rfl⟩
    obtain ⟨l4, hl4⟩ : ∃ l, l = mLst (traOk N S' (conjB x)) N (conjB x) (traL N S' (conjB x)) := ⟨_, rfl⟩
    have HSv := Lib.hid (fun (V : World) (h : Has9 V (W2.alloc (.cells #[.int .i64 (N : Nat), .int .i64 (N : Nat), .slice A1 M c1] 32)).heap.size b1 N S) (hrd : Reads V V.heap.size Ab (nums x)) => (show Calls Try.prog 13 #[.pointer (some ⟨b1, 0, none⟩), .slice Ab x.length kb] V (RetSol E1 l1 V) from by
      rw [hE1, hl1]; exact Solve_all Ab x kb V h HMir.out.fin HPerm.out HN64.out (by have := HXl.out; omega) HLx.out hrd))
    have HTv := Lib.hid (fun (V : World) (h : Has9 V (W2.alloc (.cells #[.int .i64 (N : Nat), .int .i64 (N : Nat), .slice A1 M c1] 32)).heap.size b1 N S) (hrd : Reads V V.heap.size Ab (nums x)) => (show Calls Try.prog 30 #[.pointer (some ⟨b1, 0, none⟩), .slice Ab x.length kb] V (RetSol E2 l3 V) from by
      rw [hE2, hl3]; exact Trans_all Ab x kb V h HMir.out.fin HPerm.out HN64.out (by have := HXl.out; omega) HLx.out hrd))
    have HSu := Lib.hid (fun (Ac : Option Addr) (kc : Nat) (V : World) (h : Has9 V W4.heap.size b2 N S') (hrd : Reads V V.heap.size Ac (nums (conjB x))) => (show Calls Try.prog 13 #[.pointer (some ⟨b2, 0, none⟩), .slice Ac x.length kc] V (RetSol E1 l2 V) from by
      rw [hE1, ← HB.out.se, hl2]
      have e := Solve_all Ac (conjB x) kc V h HMir.out.fin' HPerm'.out HN64.out (by rw [conjB_len]; have := HXl.out; omega) (conjB_lt HLx.out) hrd
      rw [conjB_len] at e; exact e))
    have HTu := Lib.hid (fun (Ac : Option Addr) (kc : Nat) (V : World) (h : Has9 V W4.heap.size b2 N S') (hrd : Reads V V.heap.size Ac (nums (conjB x))) => (show Calls Try.prog 30 #[.pointer (some ⟨b2, 0, none⟩), .slice Ac x.length kc] V (RetSol E2 l4 V) from by
      rw [hE2, ← HB.out.te, hl4]
      have e := Trans_all Ac (conjB x) kc V h HMir.out.fin' HPerm'.out HN64.out (by rw [conjB_len]; have := HXl.out; omega) (conjB_lt HLx.out) hrd
      rw [conjB_len] at e; exact e))
    have HCx := Lib.hid (fun (V : World) (hrd : Reads V V.heap.size Ab (nums x)) => (show Calls Try.prog 32 #[.slice Ab x.length kb] V (RetL (conjB x) V) from ConjNumbers_c Ab x kb V HXl.out hrd))
    have Hl12 := Lib.hid (show l2.length = l1.length by rw [hl1, hl2]; exact HB.out.sl)
    have Hl34 := Lib.hid (show l4.length = l3.length by rw [hl3, hl4]; exact HB.out.tl)
    have Hl1 := Lib.hid (show l1.length ≤ N by rw [hl1]; exact HB.out.sn)
    have Hl3 := Lib.hid (show l3.length ≤ N by rw [hl3]; exact HB.out.tn)
    have HV12 := Lib.hid (show ∀ (k : Nat) (p q : C), l2[k]? = some p → (conjB l1)[k]? = some q → pEqual (cnC p) (cnC q) = true by rw [hl1, hl2]; exact HB.out.sv)
    have HV34 := Lib.hid (show ∀ (k : Nat) (p q : C), l4[k]? = some p → (conjB l3)[k]? = some q → pEqual (cnC p) (cnC q) = true by rw [hl3, hl4]; exact HB.out.tv)
    clear hE1 hE2 hl1 hl2 hl3 hl4 HB
    go_wp2_with fail
    refine (HSv.out _ (K6.out.get 1 rfl) (K6.out.rd 0 rfl)).mono ?_
    rintro e W7 hr
    obtain ⟨A7, k7, rfl, hrd, hb⟩ := sol_own hr
    have K7 := Lib.hid ((K6.out.below hb).addL hrd)
    clear hr hrd hb K6
    go_wp2_with fail
    refine (HCx.out _ (K7.out.rd 1 rfl)).mono ?_
    rintro e W8 ⟨s, rfl, hown, hb⟩
    obtain ⟨A8, k8, rfl, hrb, -, -⟩ := own_reads hown
    rw [conjB_len]
    have K8 := Lib.hid ((K7.out.below hb).addL hrb)
    clear hown hb hrb K7
    go_wp2_with fail
    refine (HSu.out _ _ _ (K8.out.get 0 rfl) (K8.out.rd 0 rfl)).mono ?_
    rintro e W9 hr
    obtain ⟨A9, k9, rfl, hrd, hb⟩ := sol_own hr
    rw [Hl12.out]
    have K9 := Lib.hid ((K8.out.below hb).addL hrd)
    clear hr hrd hb K8
    go_wp2_with fail
    refine (HTv.out _ (K9.out.get 1 rfl) (K9.out.rd 3 rfl)).mono ?_
    rintro e W10 hr
    obtain ⟨A10, k10, rfl, hrd, hb⟩ := sol_own hr
    have K10 := Lib.hid ((K9.out.below hb).addL hrd)
    clear hr hrd hb K9
    go_wp2_with fail
    refine (HCx.out _ (K10.out.rd 4 rfl)).mono ?_
    rintro e W11 ⟨s, rfl, hown, hb⟩
    obtain ⟨A11, k11, rfl, hrb, -, -⟩ := own_reads hown
    rw [conjB_len]
    have K11 := Lib.hid ((K10.out.below hb).addL hrb)
    clear hown hb hrb K10
    go_wp2_with fail
    refine (HTu.out _ _ _ (K11.out.get 0 rfl) (K11.out.rd 0 rfl)).mono ?_
    rintro e W12 hr
    obtain ⟨A12, k12, rfl, hrd, hb⟩ := sol_own hr
    rw [Hl34.out]
    have K12 := Lib.hid ((K11.out.below hb).addL hrd)
    clear hr hrd hb K11
    have hls : ∀ i, i < N → ltC (S.E i i) := fun i hi => by obtain ⟨_, _, _, _, _, _, _, hl⟩ := (K12.out.get 1 rfl).num hi hi; exact hl
    obtain ⟨hU, hU', hde, hD⟩ := mirD HMir.out HdS.out hls
    have HD1 := Det_c W12 (K12.out.get 1 rfl) HMir.out.fin HN64.out (det_any hU) (fun i hi => (dm_in hU i hi).lt)
    have HD2 := fun (V : World) (h : Has9 V W4.heap.size b2 N S') => Det_c V h HMir.out.fin' HN64.out (det_any hU') (fun i hi => (dm_in hU' i hi).lt)
    rw [hde] at HD2
    obtain ⟨kk, hkk⟩ : ∃ k, k = deF (fun i => uppE S i i) N := ⟨_, rfl⟩
    obtain ⟨d, hd⟩ : ∃ d, d = detD S (dmF (fun i => uppE S i i) N) := ⟨_, rfl⟩
    obtain ⟨d', hd'⟩ : ∃ d', d' = detD S' (dmF (fun i => uppE S' i i) N) := ⟨_, rfl⟩
    rw [← hkk, ← hd] at HD1
    rw [← hkk, ← hd'] at HD2
    rw [← hkk, ← hd, ← hd'] at hD
    have HDa := Lib.hid HD1
    have HDb := Lib.hid HD2
    have HDm := Lib.hid hD
    clear hls hU hU' hde hD HD1 HD2 hkk hd hd'
    go_wp2_with fail
    refine HDa.out.mono ?_
    rintro e W13 ⟨rfl, hb⟩
    have K13 := Lib.hid (K12.out.below hb)
    clear hb K12 HDa
    go_wp2_with fail
    refine (HDb.out _ (K13.out.get 0 rfl)).mono ?_
    rintro e W14 ⟨rfl, hb⟩
    have K14 := Lib.hid (K13.out.below hb)
    clear hb K13 HDb
    obtain ⟨d1, d2⟩ := d
    obtain ⟨c1', c2'⟩ := d'
    have q1 : feq .f64 c1' d1 = true := HDm.out.e1
    have q2 : feq .f64 c2' (Op.negFloat .f64 d2) = true := by rw [negFloat_flip]; exact HDm.out.e2
    have ld1 : d1 < 18446744073709551616 := HDm.out.lt.1
    have ld2 : d2 < 18446744073709551616 := HDm.out.lt.2
    obtain ⟨mm, hmm⟩ : ∃ mm, max (rung double d1) (rung double d2) = mm := ⟨_, rfl⟩
    have hb1 : rung double d1 < 4611686018427387904 := HDm.out.f1
    have hb2 : rung double d2 < 4611686018427387904 := HDm.out.f2
    have hb3 : 4607182418800017408 ≤ mm := by rw [← hmm]; exact HDm.out.one
    have hb4 : mm < 4611686018427387904 := by omega
    have HMx := Lib.hid (fun V => mMax_c (rung double d1) (rung double d2) (by omega) (by omega) V)
    rw [hmm] at HMx
    have hi : double.infRung = 9218868437227405312 := by decide
    have g1 : fle .f64 4607182418800017408 mm = true := by rw [fle_rungs (by omega) (by omega)]; exact decide_eq_true hb3
    have g2 : flt .f64 mm 4611686018427387904 = true := by rw [flt_rungs (by omega) (by omega)]; exact decide_eq_true hb4
    have HA1 := Lib.hid (fun V => mAbs_c d1 ld1 V)
    have HA2 := Lib.hid (fun V => mAbs_c d2 ld2 V)
    clear hmm hb1 hb2 hb3 hb4 hi ld1 ld2
    go_wp2_with fail
    refine (HA1.out _).mono ?_
    rintro e w' ⟨rfl, rfl⟩
    go_wp2_with fail
    refine (HA2.out _).mono ?_
    rintro e w' ⟨rfl, rfl⟩
    go_wp2_with fail
    refine (HMx.out _).mono ?_
    rintro e w' ⟨rfl, rfl⟩
    have HC7 := Lib.hid (ConjNumbers_c A7 l1 k7 W14 (by have := Hl1.out; have := HN64.out; omega) (K14.out.rd 5 rfl))
    go_wp2_with fail
    refine HC7.out.mono ?_
    rintro e W15 ⟨s, rfl, hown, hb⟩
    obtain ⟨A15, k15, rfl, hrb, -, -⟩ := own_reads hown
    rw [conjB_len]
    have K15 := Lib.hid ((K14.out.below hb).addL hrb)
    have HE1 := Lib.hid (EqualNumbers_t A9 A15 l2 (conjB l1) l1.length k9 k15 W15 Hl12.out (conjB_len l1) HV12.out (by have := Hl1.out; have := HN64.out; omega) (K15.out.rd 4 rfl) (K15.out.rd 0 rfl))
    clear hown hb hrb K14 HC7
    go_wp2_with fail
    refine HE1.out.mono ?_
    rintro e W16 ⟨dd, rfl, hw⟩
    have K16 := Lib.hid (K15.out.below (show Below _ _ W16 by rw [hw]; exact below_drewN (Below.refl _ _) dd))
    have HC10 := Lib.hid (ConjNumbers_c A10 l3 k10 W16 (by have := Hl3.out; have := HN64.out; omega) (K16.out.rd 3 rfl))
    clear hw K15 HE1
    go_wp2_with fail
    refine HC10.out.mono ?_
    rintro e W17 ⟨s, rfl, hown, hb⟩
    obtain ⟨A17, k17, rfl, hrb, -, -⟩ := own_reads hown
    rw [conjB_len]
    have K17 := Lib.hid ((K16.out.below hb).addL hrb)
    have HE2 := Lib.hid (EqualNumbers_t A12 A17 l4 (conjB l3) l3.length k12 k17 W17 Hl34.out (conjB_len l3) HV34.out (by have := Hl3.out; have := HN64.out; omega) (K17.out.rd 2 rfl) (K17.out.rd 0 rfl))
    clear hown hb hrb K16 HC10
    go_wp2_with fail
    refine HE2.out.mono ?_
    rintro e W18 ⟨dd, rfl, hw⟩
    have K18 := Lib.hid (K17.out.below (show Below _ _ W18 by rw [hw]; exact below_drewN (Below.refl _ _) dd))
    clear hw K17 HE2
    go_wp2
    go_ret
    exact ⟨rfl, K18.out.bel⟩
  · have hne : (f1 == 0) = false := by simpa using h0
    have HOf1 := Lib.hid (fun A c V h1 h2 => (HOf.out A c V h1 h2).mono fun e w' h => h.bad h0)
    have HOg1 := Lib.hid (fun A c V h1 h2 => (HOg.out A c V h1 h2).mono fun e w' h => h.bad h0)
    clear HOf HOg h0
    go_wp2_with fail
    refine (HOf1.out _ _ _ HLe.out (K2.out.rd 0 rfl)).mono ?_
    rintro e W3 ⟨rfl, hb⟩
    have K3 := Lib.hid (((K2.out.below hb).new (.cells #[.int .i64 f1, .int .i64 f2] 27)).addR (heap_alloc_new W3 (.cells #[.int .i64 f1, .int .i64 f2] 27)))
    obtain ⟨x0, x1, x2, -⟩ := box3 (K3.out.row 1 rfl)
    clear hb K2
    go_wp2_with fail
    refine (HCj.out _ _ _ (K3.out.rd 0 rfl)).mono ?_
    rintro e W4 hr
    obtain ⟨A4, c4, rfl, hrd, hle, -, -, hb⟩ := hr.lies
    rw [conjB_len, HLM.out] at hle ⊢
    have K4 := Lib.hid ((K3.out.below hb).addL hrd)
    have HLe4 := Lib.hid hle
    clear hr hrd hle hb K3 x0 x1 x2
    go_wp2_with fail
    refine (HOg1.out _ _ _ HLe4.out (K4.out.rd 0 rfl)).mono ?_
    rintro e W5 ⟨rfl, hb⟩
    have K5 := Lib.hid ((K4.out.below hb).new (.cells #[.int .i64 f1, .int .i64 f2] 27))
    obtain ⟨fa, fb⟩ := K5.out.fault 0 rfl
    clear hb K4
    go_wp2
    go_ret
    exact ⟨rfl, K5.out.bel⟩
end Go.Proofs.Ytglmmidhkpomgaa
