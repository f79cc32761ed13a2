/- Layer 7: the product. -/
import Derived.Test.YtdkcdcbbpebgmaaMX3
namespace Go.Proofs.Ytdkcdcbbpebgmaa
open Go.RowKit Fl Ieee
set_option maxRecDepth 20000
attribute [local go_sem] run_store_float run_store_complex
/-- A row times a column, its first k terms, up to NaN. -/
def dot (la lb : List C) (ca cb i j : Nat) : Nat → C
  | 0 => (0, 0)
  | k + 1 => pAdd (dot la lb ca cb i j k) (pMul (ent la ca i k) (ent lb cb k j))
/-- A value is handed back, told from a world on. -/
def FromV (v : Value) (B : Nat) (w : World) (e : Ending) (w' : World) : Prop := e = .returned v ∧ Below B w w'
def FromZ (v : C) (B : Nat) (w : World) (e : Ending) (w' : World) : Prop := ∃ z : C, e = .returned (.complex .f64 z.1 z.2) ∧ cnC z = v ∧ ltC z ∧ Below B w w'
theorem from_v {P : Program} {f : FuncId} {args : Array Value} {B : Nat} {w V : World} {v : Value} (h : Calls P f args V (RetV v V)) (hb : Below B w V) (hB : B ≤ w.heap.size) : Calls P f args V (FromV v B w) :=
  h.mono fun _ _ ⟨he, h1⟩ => ⟨he, hb.trans (h1.mono (Nat.le_trans hB hb.size))⟩
theorem from_c {P : Program} {f : FuncId} {args : Array Value} {B : Nat} {w V : World} {v : C} (h : Calls P f args V (RetC v V)) (hb : Below B w V) : Calls P f args V (FromZ v B w) :=
  h.mono fun _ _ ⟨x, y, n, he, hv, hx, hy, hw⟩ => ⟨(x, y), he, hv, ⟨hx, hy⟩, by rw [hw]; exact below_drewN hb n⟩
def DotR (la lb : List C) (ca cb i j : Nat) (W : World) (s k : Value) (wr : World) : Prop :=
  ∃ (n : Nat) (z : C), n ≤ ca ∧ k = .int .i64 (n : Nat) ∧ s = .complex .f64 z.1 z.2 ∧ cnC z = dot la lb ca cb i j n ∧ ltC z ∧ Below W.heap.size W wr
set_option maxHeartbeats 2000000 in
theorem MulE_c (ba bb ra ca cb : Nat) (A B : Option Addr) (la lb : List C) (capa capb i j : Nat) (W : World) (hboxa : Box W ba ra ca (.slice A la.length capa)) (hboxb : Box W bb ca cb (.slice B lb.length capb))
    (hba : ba < W.heap.size) (hbb : bb < W.heap.size) (hla : la.length = ra * ca) (hlb : lb.length = ca * cb) (hra : ra ≤ 64) (hca : ca ≤ 64) (hcb : cb ≤ 64) (hi : i < ra) (hj : j < cb)
    (hA : Reads W W.heap.size A (nums la)) (hB : Reads W W.heap.size B (nums lb)) :
    Calls Try.prog 80 #[.int .i64 (i : Nat), .int .i64 (j : Nat), .pointer (some ⟨ba, 0, none⟩), .pointer (some ⟨bb, 0, none⟩)] W (RetZ (dot la lb ca cb i j ca) W) := by
  have HA : ∀ (k : Nat) (V : World), k < ca → Below W.heap.size W V → Calls Try.prog 64 #[mval ra ca (.slice A la.length capa), .int .i64 (i : Nat), .int .i64 (k : Nat)] V (FromV (.complex .f64 (la.getD (i * ca + k) (0, 0)).1 (la.getD (i * ca + k) (0, 0)).2) W.heap.size W) := fun k V hk hV =>
    from_v (at_e ra ca A la capa i k V hla hra hca hi hk ((hA.below hV).more hV.size)) hV (Nat.le_refl _)
  have HB : ∀ (k : Nat) (V : World), k < ca → Below W.heap.size W V → Calls Try.prog 64 #[mval ca cb (.slice B lb.length capb), .int .i64 (k : Nat), .int .i64 (j : Nat)] V (FromV (.complex .f64 (lb.getD (k * cb + j) (0, 0)).1 (lb.getD (k * cb + j) (0, 0)).2) W.heap.size W) := fun k V hk hV =>
    from_v (at_e ca cb B lb capb k j V hlb hca hcb hk hj ((hB.below hV).more hV.size)) hV (Nat.le_refl _)
  have KA := Lib.hid HA
  have KB := Lib.hid HB
  have XA := Lib.hid hboxa
  have XB := Lib.hid hboxb
  have c1 := hboxa.2.1
  clear HA HB hboxa hboxb hla hlb hra hcb hi hj hA hB
  go_enter Try.func80, Try.ntmps80
  go_wp2
  go_loopw [7, 11] (fun s k wr => DotR la lb ca cb i j W s k wr) (fun _ k _ => ca - (intOf k).toNat)
  case atStart => exact ⟨0, (0, 0), Nat.zero_le _, rfl, rfl, (by decide : cnC (0, 0) = (0, 0)), ⟨by decide, by decide⟩, Below.refl _ _⟩
  case round =>
    obtain ⟨n, z, hn, rfl, rfl, hz, hlz, hbel⟩ := hrel
    have HZ := Lib.hid hz
    have HLz := Lib.hid hlz
    clear hz hlz
    by_cases hlt : n < ca
    · obtain ⟨a0, a1, a2⟩ := Box.below XA.out hbel hba
      obtain ⟨b0, b1, b2⟩ := Box.below XB.out hbel hbb
      have hbd := hbel.drew
      have KA2 := Lib.hid (fun V => KA.out n V hlt)
      have KB2 := Lib.hid (fun V => KB.out n V hlt)
      clear hbel
      go_wp2
      go_region_law (first
        | (go_simp; go_at_call 64; (with_reducible refine (KA2.out _ ?_).mono ?_); assumption; (rintro e V ⟨rfl, hV⟩); have u0 := Box.below XA.out hV hba; have u1 := Box.below XB.out hV hbb; obtain ⟨u00, u01, u02⟩ := u0; obtain ⟨u10, u11, u12⟩ := u1)
        | (go_simp; go_at_call 64; (with_reducible refine (KB2.out _ ?_).mono ?_); assumption; (rintro e V ⟨rfl, hV⟩); have u0 := Box.below XA.out hV hba; have u1 := Box.below XB.out hV hbb; obtain ⟨u00, u01, u02⟩ := u0; obtain ⟨u10, u11, u12⟩ := u1)
        | (go_simp; go_at_call 54; refine (from_c (B := W.heap.size) (w := W) (Add_c _ _ _ _ _) ?_).mono ?_; assumption; (rintro e V ⟨x, rfl, hx, lx, hV⟩))
        | (go_simp; go_at_call 55; refine (from_c (B := W.heap.size) (w := W) (Mul_c _ _ _ _ _) ?_).mono ?_; assumption; (rintro e V ⟨y, rfl, hy, ly, hV⟩)))
      all_goals
        have hs : cnC x = dot la lb ca cb i j (n + 1) := by
          rw [hx]
          show pAdd (cnC z) (cnC y) = pAdd (dot la lb ca cb i j n) (pMul (ent la ca i n) (ent lb cb n j))
          rw [HZ.out, hy]
          unfold ent
          rw [List.getD_eq_getElem?_getD, List.getD_eq_getElem?_getD]
        have HSS := Lib.hid hs
        have HVV := Lib.hid hV
        have HLX := Lib.hid lx
        clear hs hV lx ly hx hy
        go_wp2
        go_roundw
        case rel => exact ⟨n + 1, x, hlt, by go_num, rfl, HSS.out, HLX.out, HVV.out⟩
        case measure => simp [intOf]; omega
    · have e : n = ca := by omega
      subst e
      go_wp2
      go_ret
      exact ⟨z, rfl, HZ.out, HLz.out, hbel⟩
theorem mul_enters (args : Array Value) (W : World) : (callFunc 80 args).run Try.prog W = .ok (.enter 80 args) W :=
  enters_of Try.func80 (by kernel_rfl) rfl args W
end Go.Proofs.Ytdkcdcbbpebgmaa
