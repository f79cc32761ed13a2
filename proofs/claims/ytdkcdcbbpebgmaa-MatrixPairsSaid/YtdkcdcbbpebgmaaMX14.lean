/- Layer 7: every row, every column. -/
import Derived.Test.YtdkcdcbbpebgmaaMX6
namespace Go.Proofs.Ytdkcdcbbpebgmaa
open Go.RowKit Fl Ieee
set_option maxRecDepth 20000
attribute [local go_sem] run_store_float run_store_complex
theorem wpList_append_none {P : Program} {w : World} {ops : Array Oper} {rest : List Oper} {o : Oper} {a : Act} {Q : Exit → Act → World → Prop} (hgd : o.guard = none) (s x : Operand) (t : TypeId)
    (ho : o.op = .call { callee := .builtin .append, args := #[s, x], argTypes := #[t, t] })
    (base : Nat) (e : TypeId) (i : TypeInfo) (size : Nat) (ht : P.underlying t = some (.slice e)) (hi : P.info? e = some i)
    (v : Value) (n : Nat) (xs : List Value) (hs : a.eval s = v) (hown : w.ownsRow base e size v n xs) (hx : a.eval x = .slice none 0 0)
    (h : wpList P ops Q rest (a.put o.dst v) w) : wpList P ops Q (o :: rest) a w :=
  wpList_plain hgd fun _ hK => by
    have hr := run_append_owned_none (P := P) w base t o.type e i size ht hi v n xs hown
    unfold Oper.wp execOp
    simp only [ho, resolve, invoke, builtin, Sem.run_bind, Sem.run_pure, Result.andThen_ok, List.map_toArray, List.map_cons, List.map_nil, hs, hx, hr]
    exact hK _ _ h
theorem Row_no (r c : Int) (A : Option Addr) (n cap : Nat) (i : Int) (w : World) (h : okM r c n = false) :
    Calls Try.prog 13 #[mval r c (.slice A n cap), .int .i64 i] w (RetLE [] 4 w) := by
  have HC := Lib.hid (Check_c r c A n cap)
  rw [h] at HC
  go_enter Try.func13, Try.ntmps13
  go_wp2_with fail
  refine (HC.out _).mono ?_
  rintro e W1 ⟨rfl, hb⟩
  obtain ⟨hbx, hb0, hs1⟩ := frame0 hb
  have HB := Lib.hid hb0
  clear hb hb0 hs1 hbx h
  go_wp2
  go_ret2
  exact ⟨.slice none 0 0, rfl, World.ownsRow_nil _ _ _ _, HB.out⟩
theorem Row_arg (r c : Int) (A : Option Addr) (n cap : Nat) (i : Int) (w : World) (h : okM r c n = true) (h' : decide (i < 0) = true ∨ (decide (i < 0) = false ∧ decide (i ≥ r) = true)) :
    Calls Try.prog 13 #[mval r c (.slice A n cap), .int .i64 i] w (RetLE [] 2 w) := by
  have HC := Lib.hid (Check_c r c A n cap)
  rw [h] at HC
  go_enter Try.func13, Try.ntmps13
  go_wp2_with fail
  refine (HC.out _).mono ?_
  rintro e W1 ⟨rfl, hb⟩
  obtain ⟨⟨b0, b1, b2⟩, hb0, hs1⟩ := frame0 hb
  have HB := Lib.hid hb0
  clear hb hb0 hs1 h
  simp only [decide_eq_true_eq, decide_eq_false_iff_not, ge_iff_le] at h'
  rcases h' with h' | ⟨h1, h'⟩
  all_goals
    go_wp2
    go_ret2
    exact ⟨.slice none 0 0, rfl, World.ownsRow_nil _ _ _ _, HB.out⟩
theorem Row_none (rows i : Nat) (w : World) (hr : rows ≤ 64) (hi : i < rows) :
    Calls Try.prog 13 #[mval rows 0 (.slice none 0 0), .int .i64 (i : Nat)] w (RetLE [] 0 w) := by
  obtain ⟨i0, hz, hz0, hz1, hz2⟩ := info_parts infoNum
  have HC := Lib.hid (Check_c rows 0 none 0 0)
  have ho : okM rows 0 0 = true := okM_iff.2 ⟨by omega, by omega, by omega, by omega, by simp⟩
  rw [ho] at HC
  clear ho
  go_enter Try.func13, Try.ntmps13
  go_wp2_with fail
  refine (HC.out _).mono ?_
  rintro e W1 ⟨rfl, hb⟩
  obtain ⟨⟨b0, b1, b2⟩, hb0, hs1⟩ := frame0 hb
  obtain ⟨d0, d1, d2⟩ := Box.below ⟨b0, b1, b2⟩ (below_new W1 (.cells #[] 63)) hs1
  have HB := Lib.hid hb0
  have HS := Lib.hid (Nat.le_of_lt hs1)
  have HO := Lib.hid (World.ownsRow_made (e := 63) (size := 1) (base := w.heap.size) W1 #[] 0 (Nat.le_of_lt hs1) (Nat.zero_le _) rfl)
  clear hb hb0 hs1
  go_wp2_with (at_builtin; refine wpList_append_none rfl (.tmp 20) (.tmp 32) 26 rfl w.heap.size 63 i0 1 Try.underlying26 hz _ _ _ rfl HO.out (by simp) ?_)
  all_goals
    have hbel : Below w.heap.size w (W1.alloc (.cells #[] 63)) := HB.out.trans ((below_new W1 _).mono HS.out)
    go_ret2
    exact ⟨_, rfl, HO.out, hbel⟩
theorem Row_empty (rows cap i : Nat) (ad : Addr) (w : World) (hr : rows ≤ 64) (hi : i < rows) :
    Calls Try.prog 13 #[mval rows 0 (.slice (some ad) 0 cap), .int .i64 (i : Nat)] w (RetLE [] 0 w) := by
  obtain ⟨i0, hz, hz0, hz1, hz2⟩ := info_parts infoNum
  have HC := Lib.hid (Check_c rows 0 (some ad) 0 cap)
  have ho : okM rows 0 0 = true := okM_iff.2 ⟨by omega, by omega, by omega, by omega, by simp⟩
  rw [ho] at HC
  clear ho
  go_enter Try.func13, Try.ntmps13
  go_wp2_with fail
  refine (HC.out _).mono ?_
  rintro e W1 ⟨rfl, hb⟩
  obtain ⟨⟨b0, b1, b2⟩, hb0, hs1⟩ := frame0 hb
  obtain ⟨d0, d1, d2⟩ := Box.below ⟨b0, b1, b2⟩ (below_new W1 (.cells #[] 63)) hs1
  have HB := Lib.hid hb0
  have HS := Lib.hid (Nat.le_of_lt hs1)
  have HO := Lib.hid (World.ownsRow_made (e := 63) (size := 1) (base := w.heap.size) W1 #[] 0 (Nat.le_of_lt hs1) (Nat.zero_le _) rfl)
  clear hb hb0 hs1
  go_wp2_with (at_builtin; fail)
  all_goals
    have hbel : Below w.heap.size w (W1.alloc (.cells #[] 63)) := HB.out.trans ((below_new W1 _).mono HS.out)
    go_ret2
    exact ⟨_, rfl, HO.out, hbel⟩
theorem Row_c (rows cols : Nat) (A : Option Addr) (l : List C) (cap i : Nat) (w : World) (hr : rows ≤ 64) (hc : cols ≤ 64) (hl : l.length = rows * cols) (hcap : l.length ≤ cap) (hA : A = none → cap = 0) (hi : i < rows) (hrd : Reads w w.heap.size A (nums l)) :
    Calls Try.prog 13 #[mval rows cols (.slice A l.length cap), .int .i64 (i : Nat)] w (RetLE (rowOf l cols i) 0 w) := by
  by_cases h0 : cols = 0
  · subst h0
    have e : l = [] := List.eq_nil_of_length_eq_zero (by simpa using hl)
    subst e
    cases A with
    | none => rw [hA rfl]; exact Row_none rows i w hr hi
    | some ad => exact Row_empty rows cap i ad w hr hi
  · have h1 : 0 < l.length := by rw [hl]; exact Nat.mul_pos (by omega) (by omega)
    obtain ⟨ad, rfl, _⟩ := hrd (by simpa using h1)
    exact Row_some rows cols ad l cap i w hr hc (by omega) hl hcap hi hrd
/-- A list, told up to NaN, and what is told of it. -/
def RetLC (l : List C) (er : Int) (w : World) (e : Ending) (w' : World) : Prop := ∃ s zs, e = .returned (.tuple #[s, .int .i64 er]) ∧ zs.map cnC = l ∧ ltCs zs ∧ w'.ownsRow w.heap.size 63 1 s l.length (nums zs) ∧ Below w.heap.size w w'
theorem own_slice {w : World} {B n m : Nat} {A : Option Addr} {e : TypeId} {cap : Nat} {xs : List Value} (h : w.ownsRow B e 1 (.slice A m cap) n xs) : m = n ∧ n ≤ cap ∧ (A = none → cap = 0) := by
  rcases h.2 with ⟨h, h'⟩ | ⟨g, cap', cur, h, _, _, hn, _⟩
  · injection h with h1 h2 h3
    subst h1 h2 h3
    exact ⟨h'.symm, by omega, fun _ => rfl⟩
  · injection h with h1 h2 h3
    subst h1 h2 h3
    exact ⟨rfl, hn, fun h => by cases h⟩
/-- A row of a matrix that was made. -/
theorem row_entries (c r j : Nat) (E : Nat → Nat → C) (hj : j < r) : ((entries c E (r * c)).drop (j * c)).take c = (List.range c).map (E j) := by
  apply List.ext_getElem?
  intro k
  rw [List.getElem?_take, List.getElem?_map]
  by_cases hk : k < c
  · rw [if_pos hk, List.getElem?_drop, List.getElem?_range hk]
    unfold entries
    have hlt : j * c + k < r * c := by
      have h1 : (j + 1) * c ≤ r * c := Nat.mul_le_mul_right _ hj
      rw [Nat.add_mul, Nat.one_mul] at h1; omega
    rw [List.getElem?_map, List.getElem?_range hlt]
    show some _ = some _
    rw [entry_at E hk]
  · rw [if_neg hk, List.getElem?_eq_none (by simp; omega)]; rfl
theorem rowOf_map (l : List C) (c i : Nat) : (rowOf l c i).map cnC = ((l.map cnC).drop (i * c)).take c := by
  unfold rowOf; rw [List.map_take, List.map_drop]
theorem ltCs_row {l : List C} (h : ltCs l) (c i : Nat) : ltCs (rowOf l c i) := fun z hz => h z (List.mem_of_mem_drop (List.mem_of_mem_take hz))
set_option maxHeartbeats 1000000 in
theorem Col_c (rows cols : Nat) (A : Option Addr) (l : List C) (cap j : Nat) (w : World) (hr : rows ≤ 64) (hc : cols ≤ 64) (hl : l.length = rows * cols) (hj : j < cols) (hrd : Reads w w.heap.size A (nums l)) (hlt : ltCs l) :
    Calls Try.prog 14 #[mval rows cols (.slice A l.length cap), .int .i64 (j : Nat)] w (RetLC ((List.range rows).map fun i => ent l cols i j) 0 w) := by
  have hb0 : Below w.heap.size w (w.alloc (.cells #[.int .i64 rows, .int .i64 cols, .slice A l.length cap] 28)) := below_new w _
  have HT := Lib.hid (Transpose_c rows cols A l cap _ hr hc hl ((hrd.below hb0).more hb0.size) hlt)
  have HB := Lib.hid hb0
  clear hrd hlt hl hb0
  go_enter Try.func14, Try.ntmps14
  go_wp2_with fail
  refine HT.out.mono ?_
  rintro e W1 ⟨s, zs, rfl, hz, hlz, hown, hb⟩
  have hbel : Below w.heap.size w W1 := HB.out.trans (hb.mono HB.out.size)
  obtain ⟨sA, sn, sc, rfl, -⟩ := slice_of_own hown
  obtain ⟨he, hcap, hA⟩ := own_slice hown
  have hlen : zs.length = cols * rows := by have := congrArg List.length hz; simpa [entries] using this
  have hel : (entries rows (fun i j => ent l cols j i) (cols * rows)).length = zs.length := by rw [← hz, List.length_map]
  rw [hel] at hown he hcap
  subst he
  have hrd1 : Reads W1 W1.heap.size sA (nums zs) := Reads.of_own hown
  have hb1 : Below W1.heap.size W1 (W1.alloc (.cells #[.int .i64 cols, .int .i64 rows, .slice sA zs.length sc] 28)) := below_new W1 _
  have HR := Lib.hid (Row_c cols rows sA zs sc j _ hc hr hlen hcap hA hj ((hrd1.below hb1).more hb1.size))
  have HB1 := Lib.hid (hbel.trans (hb1.mono hbel.size))
  have HV := Lib.hid (show (rowOf zs rows j).map cnC = (List.range rows).map fun i => ent l cols i j by rw [rowOf_map, hz, row_entries rows cols j _ hj])
  have HL := Lib.hid (ltCs_row hlz rows j)
  clear hz hlz hown hb hbel hlen hel hcap hA hrd1 hb1
  go_wp2_with fail
  refine HR.out.mono ?_
  rintro e W2 ⟨s2, rfl, hown2, hb2⟩
  have HO2 := Lib.hid (own_base hown2 HB1.out.size)
  have HB2 := Lib.hid (HB1.out.trans (hb2.mono HB1.out.size))
  clear hown2 hb2
  go_wp2
  go_ret2
  refine ⟨s2, rowOf zs rows j, rfl, HV.out, HL.out, ?_, HB2.out⟩
  have hh := HO2.out
  have e2 : (rowOf zs rows j).length = ((List.range rows).map fun i => ent l cols i j).length := by rw [← HV.out, List.length_map]
  rw [e2] at hh; exact hh
end Go.Proofs.Ytdkcdcbbpebgmaa
namespace Go.Proofs.Ytdkcdcbbpebgmaa
open Go.RowKit Fl Ieee
theorem at_made {zs : List C} {c r i j : Nat} {E : Nat → Nat → C} (h : zs.map cnC = entries c E (r * c)) (hi : i < r) (hj : j < c) : ent zs c i j = E i j := by
  have hlt : i * c + j < r * c := by
    have h1 : (i + 1) * c ≤ r * c := Nat.mul_le_mul_right _ hi
    rw [Nat.add_mul, Nat.one_mul] at h1; omega
  have h2 := congrArg (fun t : List C => t[i * c + j]?) h
  simp only [List.getElem?_map] at h2
  unfold entries at h2
  rw [List.getElem?_map, List.getElem?_range hlt] at h2
  unfold ent
  rw [List.getD_eq_getElem?_getD]
  cases hz : zs[i * c + j]? with
  | none => rw [hz] at h2; cases h2
  | some z =>
    rw [hz] at h2
    have h3 : cnC z = entry c E (i * c + j) := Option.some.inj h2
    show cnC z = _
    rw [h3, entry_at E hj]
theorem own_reads {W : World} {B n : Nat} {e : TypeId} {v : Value} {xs : List Value} (h : W.ownsRow B e 1 v n xs) : ∃ A cap, v = .slice A n cap ∧ Reads W W.heap.size A xs ∧ n ≤ cap ∧ (A = none → cap = 0) := by
  obtain ⟨A, m, c, rfl, rfl⟩ := slice_of_own h
  obtain ⟨-, h1, h2⟩ := own_slice h
  exact ⟨A, c, rfl, Reads.of_own h, h1, h2⟩
theorem len_made {zs : List C} {c r : Nat} {E : Nat → Nat → C} (h : zs.map cnC = entries c E (r * c)) : zs.length = r * c := by
  have := congrArg List.length h; simpa [entries] using this
theorem rowOf_ent {l : List C} {r c a : Nat} (hl : l.length = r * c) (ha : a < r) : (rowOf l c a).map cnC = (List.range c).map fun i => ent l c a i := by
  apply List.ext_getElem?
  intro k
  rw [rowOf_map, List.getElem?_take, List.getElem?_map]
  by_cases hk : k < c
  · rw [if_pos hk, List.getElem?_drop, List.getElem?_range hk, List.getElem?_map]
    have := at_ok hl ha hk
    rw [this]; rfl
  · rw [if_neg hk, List.getElem?_eq_none (by simp; omega)]; rfl
theorem map_range_congr {n : Nat} {f g : Nat → C} (h : ∀ i, i < n → f i = g i) : (List.range n).map f = (List.range n).map g :=
  List.map_congr_left fun i hi => h i (List.mem_range.1 hi)
theorem entries_congr {c n : Nat} {E F : Nat → Nat → C} (h : ∀ k, k < n → entry c E k = entry c F k) : entries c E n = entries c F n :=
  List.map_congr_left fun i hi => h i (List.mem_range.1 hi)
theorem cnC_cnC (z : C) : cnC (cnC z) = cnC z := Prod.ext (cn_cn .f64 z.1) (cn_cn .f64 z.2)
theorem cnC_ent (l : List C) (c i j : Nat) : cnC (ent l c i j) = ent l c i j := cnC_cnC _
/-- A list is its own entries. -/
theorem ents_self {l : List C} {r c : Nat} (hl : l.length = r * c) : l.map cnC = entries c (fun i j => ent l c i j) (r * c) := by
  apply List.ext_getElem?
  intro k
  unfold entries
  rw [List.getElem?_map, List.getElem?_map]
  by_cases hk : k < r * c
  · have hc : 0 < c := by
      rcases Nat.eq_zero_or_pos c with h | h
      · subst h; simp at hk
      · exact h
    rw [List.getElem?_range hk]
    unfold entry ent
    have e : k / c * c + k % c = k := by rw [Nat.mul_comm]; exact Nat.div_add_mod k c
    rw [List.getElem?_eq_getElem (by omega)]
    show some _ = some _
    simp only [e]
    rw [List.getD_eq_getElem?_getD, List.getElem?_eq_getElem (by omega)]; rfl
  · rw [List.getElem?_eq_none (by omega), List.getElem?_eq_none (by simp; omega)]; rfl
end Go.Proofs.Ytdkcdcbbpebgmaa
