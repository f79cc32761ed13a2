/- Layer 11: until: rounds: contract. -/
import Derived.Test.YtandllekeimpgaaGreatRf8
import Derived.Test.YtandllekeimpgaaGreatSV0
import Derived.Test.YtandllekeimpgaaGreatLW3
import Derived.Test.YtandllekeimpgaaGreatMX1
import Derived.Test.YtandllekeimpgaaGreatExt
import Derived.Deep.DeepCutAuto
namespace Go.Proofs.YtandllekeimpgaaGreat
open Go.RowKit Fl Ieee
set_option maxRecDepth 20000
attribute [local go_sem] run_store_float run_store_complex Fl.order_self Fl.order_self' Fl.order_eq Fl.order_ne Fl.order_lt Fl.order_gt
/-- The size of what is left. -/
def normL (r c : Int) (m b x : List C) : Nat := normV ((leftR r c m x b).map cnC)
/-- A round that is better. -/
def better (n : Nat) (S : El) (r c : Int) (m b x : List C) : Prop := onceE n S r c m x b = 0 ∧ leftE r c m (onceR n S r c m x b) b = 0 ∧ flt .f64 (normL r c m b (onceR n S r c m x b)) (normL r c m b x) = true
instance (n : Nat) (S : El) (r c : Int) (m b x : List C) : Decidable (better n S r c m b x) := by unfold better; infer_instance
def untilF (n : Nat) (S : El) (r c : Int) (m b : List C) : Nat → List C → List C × Nat
  | 0, x => (x, 0)
  | k + 1, x => if better n S r c m b x then ((untilF n S r c m b k (onceR n S r c m x b)).1, (untilF n S r c m b k (onceR n S r c m x b)).2 + 1) else (x, 0)
def untilE (n : Nat) (r c : Int) (m x b : List C) (most : Int) : Int := if r = n ∧ c = n then (if most < 0 ∨ 64 < most then 2 else leftE r c m x b) else 4
def untilR (n : Nat) (S : El) (r c : Int) (m x b : List C) (most : Int) : List C × Nat := if untilE n r c m x b most = 0 then untilF n S r c m b most.toNat x else ([], 0)
def RetUn (l : List C) (k : Nat) (er : Int) (w : World) (e : Ending) (w' : World) : Prop := ∃ s, e = .returned (.tuple #[s, .int .i64 (k : Nat), .int .i64 er]) ∧ w'.ownsRow w.heap.size 60 1 s l.length (nums l) ∧ Below w.heap.size w w'
theorem Reads.cells {W : World} {B : Nat} {A : Option Addr} {xs : List Value} (h : Reads W B A xs) {ad : Addr} (e : A = some ad) : ∀ j u, xs[j]? = some u → W.cell? (ad.add j) = some u := by
  intro j u hu
  obtain ⟨ad', e', -, hc⟩ := h.at_ hu
  rw [e] at e'
  rw [Option.some.inj e']; exact hc
structure UnI (w W0 V : World) (r c : Int) (A Ax Ab : Option Addr) (m x b : List C) (cap cx B e n : Nat) (S : El) (q : Nat) : Prop where
  on : OnI w W0 V r c A Ax Ab m x b cap B e n S
  own : V.ownsRow w.heap.size 60 1 (.slice Ax x.length cx) x.length (nums x)
  le : x.length ≤ cx
  lt : ltCs x
  nm : cn .f64 q = normL r c m b x
/-- Append on a row of one's own: whatever is handed in. -/
theorem wpList_append_all {P : Program} {w : World} {ops : Array Oper} {rest : List Oper} {o : Oper} {a : Act} {Q : Exit → Act → World → Prop} (hgd : o.guard = none) (s x : Operand) (t : TypeId)
    (ho : o.op = .call { callee := .builtin .append, args := #[s, x], argTypes := #[t, t] })
    (base : Nat) (e : TypeId) (i : TypeInfo) (z : Value) (bytes : Nat) (ht : P.underlying t = some (.slice e)) (hi : P.info? e = some i) (hz : i.zero = some z)
    (hsize : i.size = 1) (hby : i.bytes = bytes) (hzs : z.cells.size = 1)
    (v : Value) (n : Nat) (xs : List Value) (hs : a.eval s = v) (hown : w.ownsRow base e 1 v n xs)
    (A : Option Addr) (m c : Nat) (news : List Value) (hx : a.eval x = .slice A m c) (hnone : A = none → m = 0 ∧ c = 0) (hl : news.length = m) (hnews : ∀ ad, A = some ad → ∀ j u, news[j]? = some u → w.cell? (ad.add j) = some u) (h1 : ∀ u ∈ news, u.oneCell' = true)
    (h63 : n + m ≤ maxLen) (hbytes : (n + m) * bytes ≤ 140737488355328) (hbase : base ≤ w.heap.size)
    (h : ∀ v' w', w'.ownsRow base e 1 v' (n + m) (xs ++ news) → w.grownBy w' v.ownBlock → wpList P ops Q rest (a.put o.dst v') w') :
    wpList P ops Q (o :: rest) a w := by
  rcases A with _ | ad
  · obtain ⟨rfl, rfl⟩ := hnone rfl
    have hn : news = [] := List.eq_nil_of_length_eq_zero hl
    subst hn
    exact wpList_append_none hgd s x t ho base e i 1 ht hi v n xs hs hown hx (h v w (by rw [List.append_nil]; exact hown) ⟨rfl, rfl, rfl, Nat.le_refl _, fun _ _ _ => rfl⟩)
  · exact wpList_append_stays _ hgd s x t ho base e i z bytes ht hi hz hsize hby hzs v n xs hs hown ad m c news hx (by rw [hl, Nat.mul_one]) (hnews ad rfl) h1 h63 hbytes hbase (fun v' w' h2 h3 _ => h v' w' h2 h3)
theorem own_none_new {W : World} {B : Nat} (hB : B ≤ W.heap.size) : (W.alloc (.cells #[] 60)).ownsRow B 60 1 (.slice (some ⟨W.heap.size, 0, none⟩) 0 0) 0 [] :=
  ⟨rfl, .inr ⟨_, 0, #[], rfl, hB, heap_alloc_new _ _, Nat.le_refl _, by unfold maxLen; omega, rfl, rfl⟩⟩
theorem UnI.below {w W0 V V' : World} {r c : Int} {A Ax Ab : Option Addr} {m x b : List C} {cap cx B e n : Nat} {S : El} {q : Nat} (h : UnI w W0 V r c A Ax Ab m x b cap cx B e n S q) (hb : Below V.heap.size V V') : UnI w W0 V' r c A Ax Ab m x b cap cx B e n S q :=
  ⟨h.on.below hb h.on.lt, own_below h.own hb, h.le, h.lt, h.nm⟩
theorem close_un {w W0 V : World} {r c : Int} {A Ax Ab : Option Addr} {m x b : List C} {cap cx B e n : Nat} {S : El} {q k : Nat} {UR : List C} {UK : Nat} {UE : Int} (h : UnI w W0 V r c A Ax Ab m x b cap cx B e n S q) (hk : UR = x ∧ UK = k) (he : UE = 0) :
    RetUn UR UK UE w (.returned (.tuple #[.slice Ax x.length cx, .int .i64 (k : Nat), .int .i64 0])) V := by
  obtain ⟨rfl, rfl⟩ := hk
  subst he
  exact ⟨_, rfl, h.own, h.on.bel⟩
theorem onceR_lt (n : Nat) (S : El) (r c : Int) (m x b : List C) : ltCs (onceR n S r c m x b) := by
  intro z hz
  unfold onceR at hz
  split at hz
  · unfold onceV vaddL at hz
    obtain ⟨i, hi, rfl⟩ := List.getElem_of_mem hz
    rw [List.getElem_zipWith]
    exact ⟨fadd_lt _ _, fadd_lt _ _⟩
  · cases hz
theorem untilF_stop {n : Nat} {S : El} {r c : Int} {m b x : List C} (k : Nat) (h : ¬ better n S r c m b x) : untilF n S r c m b k x = (x, 0) := by
  cases k with
  | zero => rfl
  | succ k => unfold untilF; rw [if_neg h]
theorem Until_c {B e n : Nat} {S : El} (r c : Int) (A Ax Ab : Option Addr) (m x b : List C) (cap cx cb : Nat) (most : Int) (w : World) (h9 : Has9 w B e n S) (hf : finTo S.E n) (hp : Perm n S.o) (hn : n ≤ 64) (hcap : m.length ≤ cap) (hcx : x.length ≤ cx) (hcb : b.length ≤ cb) (hcx0 : Ax = none → cx = 0) (lm : ltCs m) (lx : ltCs x) (lb : ltCs b)
    (rm : Reads w w.heap.size A (nums m)) (rx : Reads w w.heap.size Ax (nums x)) (rb : Reads w w.heap.size Ab (nums b)) :
    Calls Tryz.prog 10 #[mval r c (.slice A m.length cap), .pointer (some ⟨e, 0, none⟩), .slice Ax x.length cx, .slice Ab b.length cb, .int .i64 most] w (RetUn (untilR n S r c m x b most).1 (untilR n S r c m x b most).2 (untilE n r c m x b most) w) := by
  obtain ⟨W0, hW0⟩ : ∃ W0, W0 = w.alloc (.cells #[.int .i64 r, .int .i64 c, .slice A m.length cap] 27) := ⟨_, rfl⟩
  have hb0 : Below w.heap.size w W0 := by rw [hW0]; exact below_new _ _
  have HI0 := Lib.hid (show OnI w W0 W0 r c A Ax Ab m x b cap B e n S from ⟨by rw [hW0]; exact heap_alloc_new _ _, hb0, Below.refl _ _, (rm.below hb0).more hb0.size, (rx.below hb0).more hb0.size, (rb.below hb0).more hb0.size, h9.below hb0⟩)
  have HW := Lib.hid hW0
  have HFi := Lib.hid (fits_c r c (.slice A m.length cap) W0 HI0.out.h9)
  obtain ⟨fe, hfe⟩ : ∃ fe : Int, fe = if r = n ∧ c = n then 0 else 4 := ⟨_, rfl⟩
  rw [← hfe] at HFi
  obtain ⟨UE, hUE⟩ : ∃ UE, UE = untilE n r c m x b most := ⟨_, rfl⟩
  obtain ⟨UR, hUR⟩ : ∃ UR, UR = (untilR n S r c m x b most).1 := ⟨_, rfl⟩
  obtain ⟨UK, hUK⟩ : ∃ UK, UK = (untilR n S r c m x b most).2 := ⟨_, rfl⟩
  rw [← hUE, ← hUR, ← hUK]
  have HU := Lib.hid (And.intro hUE (And.intro hUR hUK))
  have HLf := Lib.hid (fun (V : World) (Ay : Option Addr) (cy : Nat) (y : List C) (hV : OnI w W0 V r c A Ay Ab m y b cap B e n S) (h1 : y.length ≤ cy) (h2 : ltCs y) => Left_c r c A Ay Ab m y b cap cy cb V hcap h1 hcb lm h2 lb hV.rm hV.rx hV.rb)
  have HOn := Lib.hid (fun (V : World) (Ay : Option Addr) (cy : Nat) (y : List C) (hV : OnI w W0 V r c A Ay Ab m y b cap B e n S) (h1 : y.length ≤ cy) (h2 : ltCs y) => Once_c r c A Ay Ab m y b cap cy cb V hV.h9 hf hp hn hcap h1 hcb lm h2 lb hV.rm hV.rx hV.rb)
  obtain ⟨LE, hLE⟩ : ∃ LE, LE = leftE r c m x b := ⟨_, rfl⟩
  obtain ⟨LR, hLR⟩ : ∃ LR, LR = leftR r c m x b := ⟨_, rfl⟩
  have HL0 := Lib.hid (fun (V : World) (hV : OnI w W0 V r c A Ax Ab m x b cap B e n S) => HLf.out V Ax cx x hV hcx lx)
  rw [← hLE, ← hLR] at HL0
  have HL := Lib.hid (And.intro hLE hLR)
  have HFe := Lib.hid hfe
  have HX := Lib.hid (And.intro hcx0 (And.intro lx hn))
  clear hW0 hb0 rm rx rb h9 hfe hUE hUR hUK hLE hLR lm lx lb hf hp hcap hcx hcb hcx0 hn
  obtain ⟨Mn, hMn⟩ : ∃ Mn, Mn = m.length := ⟨_, rfl⟩
  have HMn := Lib.hid hMn
  rw [← hMn] at HW HFi HL0 HLf HOn ⊢
  clear hMn
  go_enter Tryz.func10, Tryz.ntmps10
  go_upto_region 1 with fail
  rw [← HW.out]
  clear HW
  obtain ⟨c0, c1, c2, -⟩ := box3 HI0.out.box
  rw [← HMn.out] at c2
  go_wp2_with fail
  refine (HFi.out).mono ?_
  rintro e1 W1 ⟨rfl, hb1⟩
  have HI1 := Lib.hid (HI0.out.below hb1 HI0.out.lt)
  obtain ⟨d0, d1, d2, -⟩ := box3 HI1.out.box
  rw [← HMn.out] at d2
  clear hb1 c0 c1 c2 HFi HI0
  by_cases hrc : r = n ∧ c = n
  · have hfe : fe = 0 := by rw [HFe.out, if_pos hrc]
    have HRc := Lib.hid hrc
    subst hfe
    clear hrc HFe
    by_cases hm1 : most < 0
    · have HUz := Lib.hid (show UE = 2 ∧ UR = [] ∧ UK = 0 by
        have e1 : UE = 2 := by rw [HU.out.1]; unfold untilE; rw [if_pos HRc.out, if_pos (by omega)]
        refine ⟨e1, ?_⟩
        rw [HU.out.2.1, HU.out.2.2]
        unfold untilR
        rw [if_neg (by rw [← HU.out.1, e1]; decide)]
        exact ⟨rfl, rfl⟩)
      go_wp2
      go_ret3
      refine ⟨.slice none 0 0, by rw [HUz.out.1, HUz.out.2.2]; rfl, ?_, HI1.out.bel⟩
      rw [HUz.out.2.1]
      exact World.ownsRow_nil _ _ _ _
    · by_cases hm2 : most > 64
      · have HUz := Lib.hid (show UE = 2 ∧ UR = [] ∧ UK = 0 by
          have e1 : UE = 2 := by rw [HU.out.1]; unfold untilE; rw [if_pos HRc.out, if_pos (by omega)]
          refine ⟨e1, ?_⟩
          rw [HU.out.2.1, HU.out.2.2]
          unfold untilR
          rw [if_neg (by rw [← HU.out.1, e1]; decide)]
          exact ⟨rfl, rfl⟩)
        go_wp2
        go_ret3
        refine ⟨.slice none 0 0, by rw [HUz.out.1, HUz.out.2.2]; rfl, ?_, HI1.out.bel⟩
        rw [HUz.out.2.1]
        exact World.ownsRow_nil _ _ _ _
      · have HMo := Lib.hid (And.intro hm1 hm2)
        go_wp2_with fail
        refine (HL0.out W1 HI1.out).mono ?_
        rintro e2 W2 ⟨s2, rfl, hown, hb2⟩
        have HI2 := Lib.hid (HI1.out.below hb2 HI1.out.lt)
        obtain ⟨A2, k2, rfl, hr2, -, -⟩ := own_readsT hown
        have HR2 := Lib.hid hr2
        clear hown hb2 hr2 d0 d1 d2 HI1 HL0 hm1 hm2
        by_cases hle : LE = 0
        · have hle' : (LE != 0) = false := by simp [hle]
          have HLe0 := Lib.hid hle
          clear hle
          obtain ⟨g1, g2, g3, g4, g5⟩ := leftR_ok (HL.out.1 ▸ HLe0.out)
          rw [← HL.out.2] at g3
          have hxl : x.length ≤ 64 := by have := HRc.out.2; have := HX.out.2.2; omega
          have hll : LR.length ≤ 64 := by have := HRc.out.1; have := HX.out.2.2; omega
          have HXl := Lib.hid (And.intro hxl hll)
          have HUz := Lib.hid (show UE = 0 ∧ UR = (untilF n S r c m b most.toNat x).1 ∧ UK = (untilF n S r c m b most.toNat x).2 by
            have e1 : UE = 0 := by rw [HU.out.1]; unfold untilE; rw [if_pos HRc.out, if_neg (by have := HMo.out; omega), ← HL.out.1]; exact HLe0.out
            refine ⟨e1, ?_⟩
            rw [HU.out.2.1, HU.out.2.2]
            unfold untilR
            rw [if_pos (by rw [← HU.out.1]; exact e1)]
            exact ⟨rfl, rfl⟩)
          have HO2 := Lib.hid (own_none_new (W := W2) (B := w.heap.size) HI2.out.bel.size)
          have hba := below_new W2 (.cells #[] 60)
          have HIa := Lib.hid (HI2.out.below hba HI2.out.lt)
          have HRa := Lib.hid ((HR2.out.below hba).more hba.size)
          have HA0 := Lib.hid (show Ax = none → x.length = 0 ∧ cx = 0 from fun h => ⟨(by
            rcases Nat.eq_zero_or_pos x.length with h0 | h0
            · exact h0
            · obtain ⟨u, hu⟩ := some_of_lt (l := x) (k := 0) h0
              obtain ⟨ad, e, -⟩ := HI2.out.rx.at_ (k := 0) (u := .complex .f64 u.1 u.2) (by simp [nums, hu])
              rw [h] at e; cases e), HX.out.1 h⟩)
          obtain ⟨i0, hi0, hz0, hz1, hz2⟩ := info_parts infoNum
          clear g1 g2 g3 g4 g5 hxl hll hba
          go_wp2_with (at_builtin; refine wpList_append_all rfl (.tmp 44) (.tmp 45) 25 rfl w.heap.size 60 i0 (.complex .f64 0 0) 16 Tryz.underlying25 hi0 hz0 hz1 hz2 rfl _ _ _ rfl HO2.out Ax x.length cx (nums x) rfl HA0.out (by simp [nums]) (fun ad e => Reads.cells HIa.out.rx e) (by intro u hu; simp [nums] at hu; obtain ⟨a, b, -, rfl⟩ := hu; rfl) (by have := HXl.out.1; unfold maxLen; omega) (by have := HXl.out.1; omega) (Nat.le_trans HI2.out.bel.size (below_new _ _).size) ?_; intro v' w3 hown1 hgrow1)
          have HB3 := Lib.hid ((Below.refl W2.heap.size W2 |>.new (Nat.le_refl _) (.cells #[] 60)).grown hgrow1 (Nat.le_trans (Nat.le_refl _) (below_new _ _).size) (fun g hg => by cases hg; exact Nat.le_refl _))
          rw [List.nil_append, Nat.zero_add] at hown1
          have HI3 := Lib.hid (HI2.out.below HB3.out HI2.out.lt)
          obtain ⟨A3, k3, rfl, hr3, hk3, -⟩ := own_readsT hown1
          have HI3' := Lib.hid (show OnI w W0 w3 r c A A3 Ab m x b cap B e n S from ⟨HI3.out.box, HI3.out.bel, HI3.out.b0, HI3.out.rm, hr3, HI3.out.rb, HI3.out.h9⟩)
          have HO3 := Lib.hid (And.intro hown1 hk3)
          have HNm := Lib.hid (fun (V : World) (hb : Below W2.heap.size W2 V) => normV_c A2 LR k2 V (by rw [HL.out.2]; exact leftR_lt _ _ _ _ _) (by have := HXl.out.2; omega) ((HR2.out.below hb).more hb.size))
          clear hown1 hgrow1 hr3 hk3
          go_wp2_with fail
          refine (HNm.out _ HB3.out).mono ?_
          rintro e4 W4 ⟨q0, d4, rfl, hq, hql, rfl⟩
          have HU0 := Lib.hid (show UnI w W0 (w3.drewN d4) r c A A3 Ab m x b cap k3 B e n S q0 from ⟨HI3'.out.below (below_drewN (Below.refl _ _) _) HI3'.out.lt, own_below HO3.out.1 (below_drewN (Below.refl _ _) _), HO3.out.2, HX.out.2.1, by rw [hq, HL.out.2]; unfold normL; rfl⟩)
          clear hq hql
          go_wp2_with fail
          go_loopw [14, 16, 17, 18] (fun _ hv rv nv wr => ∃ (k : Nat) (Ay : Option Addr) (cy : Nat) (y : List C) (q : Nat), (k : Int) ≤ most ∧ rv = .int .i64 (k : Nat) ∧ hv = .slice Ay y.length cy ∧ nv = .float .f64 q ∧ Hid (UnI w W0 wr r c A Ay Ab m y b cap cy B e n S q) ∧ Hid (UR = (untilF n S r c m b (most.toNat - k) y).1 ∧ UK = k + (untilF n S r c m b (most.toNat - k) y).2)) (fun _ _ rv _ _ => most.toNat - (intOf rv).toNat)
          case atStart => exact ⟨0, A3, k3, x, q0, by have := HMo.out; omega, rfl, rfl, rfl, HU0, Lib.hid ⟨HUz.out.2.1, by rw [HUz.out.2.2]; simp⟩⟩
          case round =>
            rename World => wr
            obtain ⟨k, Ay, cy, y, q, hk, rfl, rfl, rfl, HY, HN⟩ := hrel
            obtain ⟨c0, c1, c2, -⟩ := box3 HY.out.on.box
            rw [← HMn.out] at c2
            by_cases hkm : (k : Int) < most
            · have HOc := Lib.hid (HOn.out wr Ay cy y HY.out.on HY.out.le HY.out.lt)
              obtain ⟨OE, hOE⟩ : ∃ OE, OE = onceE n S r c m y b := ⟨_, rfl⟩
              obtain ⟨OR, hOR⟩ : ∃ OR, OR = onceR n S r c m y b := ⟨_, rfl⟩
              rw [← hOE, ← hOR] at HOc
              have HO := Lib.hid (And.intro hOE hOR)
              clear hOE hOR
              go_wp2_with fail
              refine HOc.out.mono ?_
              rintro e5 W5 ⟨s5, rfl, hown, hb5⟩
              have HY5 := Lib.hid (HY.out.below hb5)
              obtain ⟨A5, k5, rfl, hr5, hk5, -⟩ := own_readsT hown
              by_cases hoe : OE = 0
              · have hoe' : (OE != 0) = false := by simp [hoe]
                have HYr := Lib.hid (show OnI w W0 W5 r c A A5 Ab m OR b cap B e n S from ⟨HY5.out.on.box, HY5.out.on.bel, HY5.out.on.b0, HY5.out.on.rm, hr5, HY5.out.on.rb, HY5.out.on.h9⟩)
                have HOw := Lib.hid (And.intro (own_base hown HY.out.on.bel.size) hk5)
                have HLn := Lib.hid (HLf.out W5 A5 k5 OR HYr.out hk5 (by rw [HO.out.2]; exact onceR_lt _ _ _ _ _ _ _))
                obtain ⟨FE, hFE⟩ : ∃ FE, FE = leftE r c m OR b := ⟨_, rfl⟩
                obtain ⟨FR, hFR⟩ : ∃ FR, FR = leftR r c m OR b := ⟨_, rfl⟩
                rw [← hFE, ← hFR] at HLn
                have HF := Lib.hid (And.intro hFE hFR)
                have HOe := Lib.hid (show onceE n S r c m y b = 0 by rw [← HO.out.1]; exact hoe)
                obtain ⟨c0', c1', c2', -⟩ := box3 HYr.out.box
                rw [← HMn.out] at c2'
                clear hFE hFR hown hr5 hk5 hb5 hoe c0 c1 c2
                go_wp2_with fail
                refine HLn.out.mono ?_
                rintro e6 W6 ⟨s6, rfl, hown, hb6⟩
                have HY6 := Lib.hid (HY5.out.below hb6)
                have HYr6 := Lib.hid (HYr.out.below hb6 HYr.out.lt)
                have HOw6 := Lib.hid (And.intro (own_below HOw.out.1 hb6) HOw.out.2)
                obtain ⟨A6, k6, rfl, hr6, -, -⟩ := own_readsT hown
                by_cases hfe : FE = 0
                · have hfe' : (FE != 0) = false := by simp [hfe]
                  have HNn := Lib.hid (normV_c A6 FR k6 W6 (by rw [HF.out.2]; exact leftR_lt _ _ _ _ _) (by
                    have h1 := (leftR_ok (HF.out.1 ▸ hfe)).2.2.1
                    rw [← HF.out.2] at h1
                    have := HRc.out.1; have := HX.out.2.2; omega) hr6)
                  have HFe := Lib.hid (show leftE r c m (onceR n S r c m y b) b = 0 by rw [← HO.out.2, ← HF.out.1]; exact hfe)
                  clear hown hb6 hr6 hfe c0' c1' c2'
                  go_wp2_with fail
                  refine HNn.out.mono ?_
                  rintro e7 W7 ⟨q7, d7, rfl, hq7, hql7, rfl⟩
                  have HQ := Lib.hid (show cn .f64 q7 = normL r c m b OR by rw [hq7, HF.out.2]; rfl)
                  have hfl : flt .f64 q7 q = flt .f64 (normL r c m b OR) (normL r c m b y) := by rw [← flt_cn .f64 q7 q, HQ.out, HY.out.nm]
                  obtain ⟨fb, hfb⟩ : ∃ fb, fb = flt .f64 (normL r c m b OR) (normL r c m b y) := ⟨_, rfl⟩
                  rw [← hfb] at hfl
                  have HFb := Lib.hid hfb
                  clear hfb hq7 hql7
                  cases fb
                  · have hst : untilF n S r c m b (most.toNat - k) y = (y, 0) := untilF_stop _ (fun h => by
                      have h1 := h.2.2
                      rw [← HO.out.2, ← HFb.out] at h1; cases h1)
                    have HC := Lib.hid (show UR = y ∧ UK = k from by have h := HN.out; rw [hst] at h; exact h)
                    clear hst
                    go_wp2_with fail
                    go_ret3
                    exact close_un (HY6.out.below (below_drewN (Below.refl _ _) d7)) HC.out HUz.out.1
                  · go_wp2_with fail
                    go_roundw
                    case rel =>
                      refine ⟨k + 1, A5, k5, OR, q7, by omega, by go_num, rfl, rfl, Lib.hid ⟨HYr6.out.below (below_drewN (Below.refl _ _) d7) HYr6.out.lt, own_below HOw6.out.1 (below_drewN (Below.refl _ _) d7), HOw6.out.2, by rw [HO.out.2]; exact onceR_lt _ _ _ _ _ _ _, HQ.out⟩, Lib.hid ?_⟩
                      have hbt : better n S r c m b y := ⟨HOe.out, HFe.out, by rw [← HO.out.2]; exact HFb.out.symm⟩
                      have h := HN.out
                      have e1 : most.toNat - k = (most.toNat - (k + 1)) + 1 := by omega
                      rw [e1] at h
                      unfold untilF at h
                      rw [if_pos hbt, ← HO.out.2] at h
                      exact ⟨h.1, by rw [h.2]; show k + (_ + 1) = k + 1 + _; omega⟩
                    case measure => simp [intOf]; omega
                · have hfe' : (FE != 0) = true := by simp [hfe]
                  have hst : untilF n S r c m b (most.toNat - k) y = (y, 0) := untilF_stop _ (fun h => hfe (by rw [HF.out.1, HO.out.2]; exact h.2.1))
                  have HC := Lib.hid (show UR = y ∧ UK = k from by have h := HN.out; rw [hst] at h; exact h)
                  clear hst hown hr6 c0' c1' c2'
                  go_wp2_with fail
                  go_ret3
                  exact close_un HY6.out HC.out HUz.out.1
              · have hoe' : (OE != 0) = true := by simp [hoe]
                have hst : untilF n S r c m b (most.toNat - k) y = (y, 0) := untilF_stop _ (fun h => hoe (by rw [HO.out.1]; exact h.1))
                have HC := Lib.hid (show UR = y ∧ UK = k from by have h := HN.out; rw [hst] at h; exact h)
                clear hst hown hr5 hk5 c0 c1 c2
                go_wp2_with fail
                go_ret3
                exact close_un HY5.out HC.out HUz.out.1
            · have e : most.toNat - k = 0 := by omega
              have HC := Lib.hid (show UR = y ∧ UK = k from by have h := HN.out; rw [e] at h; exact h)
              clear e
              go_wp2_with fail
              go_ret3
              exact close_un HY.out HC.out HUz.out.1
        · have hle' : (LE != 0) = true := by simp [hle]
          have HUz := Lib.hid (show UE = LE ∧ UR = [] ∧ UK = 0 by
            have e1 : UE = LE := by rw [HU.out.1]; unfold untilE; rw [if_pos HRc.out, if_neg (by have := HMo.out; omega), ← HL.out.1]
            refine ⟨e1, ?_⟩
            rw [HU.out.2.1, HU.out.2.2]
            unfold untilR
            rw [if_neg (by rw [← HU.out.1, e1]; exact hle)]
            exact ⟨rfl, rfl⟩)
          clear hle
          go_wp2
          go_ret3
          refine ⟨.slice none 0 0, by rw [HUz.out.1, HUz.out.2.2]; rfl, ?_, HI2.out.bel⟩
          rw [HUz.out.2.1]
          exact World.ownsRow_nil _ _ _ _
  · have hfe : fe = 4 := by rw [HFe.out, if_neg hrc]
    subst hfe
    have HUz := Lib.hid (show UE = 4 ∧ UR = [] ∧ UK = 0 by
      have e1 : UE = 4 := by rw [HU.out.1]; unfold untilE; rw [if_neg hrc]
      refine ⟨e1, ?_⟩
      rw [HU.out.2.1, HU.out.2.2]
      unfold untilR
      rw [if_neg (by rw [← HU.out.1, e1]; decide)]
      exact ⟨rfl, rfl⟩)
    clear hrc HFe
    go_wp2
    go_ret3
    refine ⟨.slice none 0 0, by rw [HUz.out.1, HUz.out.2.2]; rfl, ?_, HI1.out.bel⟩
    rw [HUz.out.2.1]
    exact World.ownsRow_nil _ _ _ _
end Go.Proofs.YtandllekeimpgaaGreat
