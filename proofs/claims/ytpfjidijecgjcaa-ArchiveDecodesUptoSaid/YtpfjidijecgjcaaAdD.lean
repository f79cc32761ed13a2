/- Layer 31: a solution's numbers. -/
import Derived.Test.YtpfjidijecgjcaaAdC
import Derived.Deep.DeepCutAuto
import Derived.Deep.RegionHeld3
import Derived.Deep.RegionLaw
namespace Go.Proofs.Ytpfjidijecgjcaa
open Go.RowKit Fl Ieee
set_option maxRecDepth 20000
attribute [local go_sem] run_store_float run_store_complex
/-- Append on a row of one's own, whatever is handed in: the run. -/
theorem run_append_whatever {P : Program} (w : World) (base : Nat) (t ty e : TypeId) (i : TypeInfo) (z : Value) (size bytes : Nat) (ht : P.underlying t = some (.slice e)) (hi : P.info? e = some i) (hz : i.zero = some z)
    (hsize : i.size = size) (hby : i.bytes = bytes) (hzs : z.cells.size = size) (hsz : 0 < size)
    (v : Value) (n : Nat) (xs : List Value) (hown : w.ownsRow base e size v n xs)
    (A : Option Addr) (m c : Nat) (news : List Value) (hnone : A = none → m = 0 ∧ c = 0) (hl : news.length = m * size) (hnews : ∀ ad, A = some ad → ∀ j u, news[j]? = some u → w.cell? (ad.add j) = some u) (h1 : ∀ u ∈ news, u.oneCell' = true)
    (h63 : n + m ≤ maxLen) (hbytes : (n + m) * bytes ≤ 140737488355328) (hbase : base ≤ w.heap.size) :
    ∃ v' w', (Builtin.append_ #[t, t] ty #[v, .slice A m c]).run P w = .ok v' w' ∧ w'.ownsRow base e size v' (n + m) (xs ++ news) ∧ w.grownBy w' v.ownBlock := by
  rcases A with _ | ad
  · obtain ⟨rfl, rfl⟩ := hnone rfl
    have hn : news = [] := List.eq_nil_of_length_eq_zero (by rw [hl]; simp)
    subst hn
    exact ⟨v, w, run_append_owned_none (P := P) w base t ty e i size ht hi v n xs hown, by rw [List.append_nil]; exact hown, ⟨rfl, rfl, rfl, Nat.le_refl _, fun _ _ _ => rfl⟩⟩
  · obtain ⟨v', w', hr, h2, h3, -, -⟩ := run_append_own_at (P := P) w base t ty e i z size bytes ht hi hz hsize hby hzs hsz v n xs hown ad m c news hl (hnews ad rfl) h1 h63 hbytes hbase
    exact ⟨v', w', hr, h2, h3⟩
theorem wp_append_whatever {P : Program} {w : World} {o : Oper} {a : Act} {bb : Bool} {K K2 : Act → World → Prop} {w2 : World} {a2 : Act} {Q : Exit → Act → World → Prop} (hgd : bb = true) (d : Tmp) (s x : Operand) (t : TypeId) (hd : o.dst = some d)
    (ho : o.op = .call { callee := .builtin .append, args := #[s, x], argTypes := #[t, t] })
    (base : Nat) (e : TypeId) (i : TypeInfo) (z : Value) (size bytes : Nat) (ht : P.underlying t = some (.slice e)) (hi : P.info? e = some i) (hz : i.zero = some z)
    (hsize : i.size = size) (hby : i.bytes = bytes) (hzs : z.cells.size = size) (hsz : 0 < size)
    (v : Value) (n : Nat) (xs : List Value) (hs : a.eval s = v) (hown : w.ownsRow base e size v n xs)
    (A : Option Addr) (m c : Nat) (news : List Value) (hx : a.eval x = .slice A m c) (hnone : A = none → m = 0 ∧ c = 0) (hl : news.length = m * size) (hnews : ∀ ad, A = some ad → ∀ j u, news[j]? = some u → w.cell? (ad.add j) = some u) (h1 : ∀ u ∈ news, u.oneCell' = true)
    (h63 : n + m ≤ maxLen) (hbytes : (n + m) * bytes ≤ 140737488355328) (hbase : base ≤ w.heap.size)
    (h : ∀ v' w', w'.ownsRow base e size v' (n + m) (xs ++ news) → w.grownBy w' v.ownBlock → K (a.put (some d) v') w') :
    if bb = true then Oper.wp P o a w K Q else K2 a2 w2 := by
  rw [if_pos hgd]
  obtain ⟨v', w', hr, h2, h3⟩ := run_append_whatever (P := P) w base t o.type e i z size bytes ht hi hz hsize hby hzs hsz v n xs hown A m c news hnone hl hnews h1 h63 hbytes hbase
  unfold Oper.wp execOp
  simp only [ho, resolve, invoke, builtin, Sem.run_bind, Sem.run_pure, Result.andThen_ok, List.map_toArray, List.map_cons, List.map_nil, hs, hx, hr]
  show K (a.put o.dst v') w'
  rw [hd]
  exact h _ _ h2 h3
theorem nums_one {l : List C} : ∀ u ∈ nums l, u.oneCell' = true := fun u hu => by
  obtain ⟨z, -, rfl⟩ := List.mem_map.1 hu
  rfl
theorem reads_add {W : World} {B : Nat} {A : Option Addr} {xs : List Value} (h : Reads W B A xs) {ad : Addr} (e : A = some ad) : ∀ j u, xs[j]? = some u → W.cell? (ad.add j) = some u := by
  intro j u hu
  obtain ⟨ad', e', -, hc⟩ := h.at_ hu
  rw [e] at e'
  rw [Option.some.inj e']; exact hc
theorem none_nums {W : World} {B : Nat} {A : Option Addr} {l : List C} {c : Nat} (h : Reads W B A (nums l)) (hn : A = none → c = 0) : A = none → l.length = 0 ∧ c = 0 := fun h0 => by
  refine ⟨?_, hn h0⟩
  rcases Nat.eq_zero_or_pos l.length with h1 | h1
  · exact h1
  · obtain ⟨ad, e, -⟩ := h (by simp [nums]; exact h1)
    rw [h0] at e; cases e
/-- A new list of numbers. -/
def RetOwn (l : List C) (w : World) (e : Ending) (w' : World) : Prop := ∃ v, e = .returned v ∧ w'.ownsRow w.heap.size 60 1 v l.length (nums l) ∧ Below w.heap.size w w'
theorem numbers_c (om : Nat) (A1 A2 : Option Addr) (l m : List C) (c1 c2 : Nat) (w : World) (h1 : Reads w w.heap.size A1 (nums l)) (h2 : Reads w w.heap.size A2 (nums m)) (k1 : A1 = none → c1 = 0) (k2 : A2 = none → c2 = 0) (hl : l.length ≤ 100000) (hm : m.length ≤ 100000) :
    Calls Try.prog 48 #[.agg #[.float .f64 om, .slice A1 l.length c1, .slice A2 m.length c2]] w (RetOwn (l ++ m) w) := by
  obtain ⟨i0, hi0, hz0, hz1, hz2⟩ := info_parts infoNum
  have H1 := Lib.hid h1
  have H2 := Lib.hid h2
  have HN1 := Lib.hid (none_nums h1 k1)
  have HN2 := Lib.hid (none_nums h2 k2)
  obtain ⟨X, hX⟩ : ∃ X, X = w.alloc (.cells #[.float .f64 om, .slice A1 l.length c1, .slice A2 m.length c2] 39) := ⟨_, rfl⟩
  have hXs : X.heap.size = w.heap.size + 1 := by rw [hX]; simp
  have hwX : Below w.heap.size w X := by rw [hX]; exact below_new _ _
  have HC := Lib.hid (fun V (hV : Below X.heap.size X V) => (show V.cell? ⟨w.heap.size, 1, none⟩ = some (.slice A1 l.length c1) ∧ V.cell? ⟨w.heap.size, 2, none⟩ = some (.slice A2 m.length c2) from by
    have hb : V.heap[w.heap.size]? = X.heap[w.heap.size]? := hV.block _ (by rw [hXs]; exact Nat.lt_succ_self _)
    have hr : V.heap[w.heap.size]? = some (.cells #[.float .f64 om, .slice A1 l.length c1, .slice A2 m.length c2] 39) := by rw [hb, hX, heap_alloc_new]
    exact ⟨by rw [cell_of_row _ _ 1 _ _ _ hr]; rfl, by rw [cell_of_row _ _ 2 _ _ _ hr]; rfl⟩))
  have HXs := Lib.hid hXs
  have HwX := Lib.hid hwX
  clear h1 h2 hXs hwX k1 k2
  go_enter Try.func48, Try.ntmps48
  go_upto_region 1 with fail
  rw [← hX]
  clear hX
  refine wp_region_noPanic ?_
  refine wp_region_held_drew (S := fun V => V.cell? ⟨w.heap.size, 1, none⟩ = some (.slice A1 l.length c1) ∧ V.cell? ⟨w.heap.size, 2, none⟩ = some (.slice A2 m.length c2)) (by kernel_rfl) (HC.out _ (Below.refl _ X).drew) (fun hS0 => ?_)
  refine wpAnyH_take (i := 1) (v := ?vva1) rfl (by kernel_rfl) (by kernel_rfl) (by kernel_rfl) (fun _ _ _ h => h) (Or.inl ⟨rfl, ?yya1⟩) hS0 ?_
  case yya1 => (intro w' hSw; (try dsimp only at hSw); obtain ⟨q1, q2⟩ := hSw; first | (go_simp; done) | (go_simp; with_reducible rfl) | kernel_rfl)
  simp only [Act.put]
  refine wpAnyH_take (i := 2) (v := ?vva2) rfl (by kernel_rfl) (by kernel_rfl) (by kernel_rfl) (fun _ _ _ h => h) (Or.inl ⟨rfl, ?yya2⟩) hS0 ?_
  case yya2 => (intro w' hSw; (try dsimp only at hSw); obtain ⟨q1, q2⟩ := hSw; first | (go_simp; done) | (go_simp; with_reducible rfl) | kernel_rfl)
  simp only [Act.put]
  refine wpAnyH_take (i := 4) (v := ?vva4) rfl (by kernel_rfl) (by kernel_rfl) (by kernel_rfl) (fun _ _ _ h => h) (Or.inl ⟨rfl, ?yya4⟩) hS0 ?_
  case yya4 => (intro w' hSw; (try dsimp only at hSw); obtain ⟨q1, q2⟩ := hSw; first | (go_simp; done) | (go_simp; with_reducible rfl) | kernel_rfl)
  simp only [Act.put]
  refine wpAnyH_take (i := 5) (v := ?vva5) rfl (by kernel_rfl) (by kernel_rfl) (by kernel_rfl) (fun _ _ _ h => h) (Or.inl ⟨rfl, ?yya5⟩) hS0 ?_
  case yya5 => (intro w' hSw; (try dsimp only at hSw); obtain ⟨q1, q2⟩ := hSw; first | (go_simp; done) | (go_simp; with_reducible rfl) | kernel_rfl)
  simp only [Act.put]
  refine wpAnyH_ready (rs := [0]) (by kernel_rfl) (by simp) ?_
  refine AllReadyH.cons rfl (fun K hK => ?_) AllReadyH.nil
  go_simp
  have hb1 : Below X.heap.size X (X.alloc (.cells #[] 60)).drew := (below_new _ _).drew
  have hown0 : (X.alloc (.cells #[] 60)).drew.ownsRow X.heap.size 60 1 (.slice (some ⟨X.heap.size, 0, none⟩) 0 0) 0 [] := own_below (World.ownsRow_made X #[] 0 (Nat.le_refl _) (Nat.zero_le _) rfl) (Below.refl _ _).drew
  refine hK.out _ _ (HC.out _ hb1) (fun hS1 => ?_)
  clear hK K hS0
  refine wpAnyH_ready (rs := [3]) (by kernel_rfl) (by simp) ?_
  refine AllReadyH.cons rfl (fun K hK => ?_) AllReadyH.nil
  simp only [Act.put]
  refine wp_append_whatever rfl 6 (.tmp 3) (.tmp 5) 37 rfl rfl X.heap.size 60 i0 (.complex .f64 0 0) 1 16 Try.underlying37 hi0 hz0 hz1 hz2 rfl (by decide) _ _ _ rfl hown0 A1 l.length c1 (nums l) rfl HN1.out (by simp [nums]) (fun ad e j u hu => reads_add (H1.out.below (HwX.out.trans (hb1.mono (by rw [HXs.out]; omega)))) e j u hu) nums_one (by unfold maxLen; omega) (by omega) hb1.size ?_
  intro v1 w1 hown1 hg1
  go_simp
  rw [List.nil_append, Nat.zero_add] at hown1
  have hb2 : Below X.heap.size X w1 := hb1.grown hg1 hb1.size (fun k hk => (hown0.lt k hk).1)
  refine hK.out _ _ (HC.out _ hb2) (fun hS2 => ?_)
  clear hK K hS1 hown0
  refine wpAnyH_ready (rs := [6]) (by kernel_rfl) (by simp) ?_
  refine AllReadyH.cons rfl (fun K hK => ?_) AllReadyH.nil
  simp only [Act.put]
  refine wp_append_whatever rfl 9 (.tmp 6) (.tmp 8) 37 rfl rfl X.heap.size 60 i0 (.complex .f64 0 0) 1 16 Try.underlying37 hi0 hz0 hz1 hz2 rfl (by decide) _ _ _ rfl hown1 A2 m.length c2 (nums m) rfl HN2.out (by simp [nums]) (fun ad e j u hu => reads_add (H2.out.below (HwX.out.trans (hb2.mono (by rw [HXs.out]; omega)))) e j u hu) nums_one (by unfold maxLen; omega) (by omega) hb2.size ?_
  intro v2 w2 hown2 hg2
  go_simp
  have er : nums l ++ nums m = nums (l ++ m) := by simp [nums]
  rw [er] at hown2
  have hb3 : Below X.heap.size X w2 := hb2.grown hg2 hb2.size (fun k hk => (hown1.lt k hk).1)
  refine hK.out _ _ (HC.out _ hb3) (fun hS3 => ?_)
  clear hK K hS2 hown1 hg1 hg2
  refine wpAnyH_take (i := 7) (v := ?vvb7) rfl (by kernel_rfl) (by kernel_rfl) (by kernel_rfl) (fun _ _ _ h => h) (Or.inl ⟨rfl, ?yyb7⟩) hS3 ?_
  case yyb7 => (intro w' hSw; (try dsimp only at hSw); first | (go_simp; done) | (go_simp; with_reducible rfl) | kernel_rfl)
  go_simp
  refine wpAnyH_done (by kernel_rfl) ?_ _
  refine NoPanic.normal ?_
  have HO2 := Lib.hid hown2
  have HB3 := Lib.hid hb3
  clear hown2 hb3 hb2 hb1 hS3 er
  go_wp2
  go_ret
  exact ⟨v2, rfl, by rw [List.length_append]; exact own_base HO2.out HwX.out.size, HwX.out.trans (HB3.out.mono HwX.out.size)⟩
end Go.Proofs.Ytpfjidijecgjcaa
