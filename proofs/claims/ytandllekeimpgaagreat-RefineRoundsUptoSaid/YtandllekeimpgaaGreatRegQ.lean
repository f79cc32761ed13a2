/- Reg's laws again: that a panic does not look at the frame is shown once, at the region's start. -/
import Derived.Test.YtandllekeimpgaaGreatReg
namespace Go
section
variable {P : Program} {ops : Array Oper} {Q : Exit → Act → World → Prop} {md : Region.Mode}
/-- What is put into a frame does not bear on a panic. -/
def PanicBlind (Q : Exit → Act → World → Prop) : Prop := ∀ (c : _) (a : Act) (d : Nat) (v : Value) (w : World), Q (.panic c) (a.put (some d) v) w → Q (.panic c) a w
theorem wp_region_Kq {id : Nat} {a : Act} {w : World} (st : Nat) (hm : P.follows .mixedOrders = true)
    (S : World → Prop) (hs : Region.noSelect ops = true) (hq : PanicBlind Q)
    (h : Region.noSelect ops = true → Closed .any ops (Array.replicate ops.size false) → PanicBlind Q → wpAnyK P .any ops Q st S ops.size (Array.replicate ops.size false) a w.drew) : (Code.region id ops true).wp P Q a w :=
  wp_region_K st hm S hs (fun h1 h2 => h h1 h2 hq)
theorem PanicBlind.at {d : Option Nat} {n : Nat} (hq : PanicBlind Q) (hd : d = some n) (v : Value) : ∀ c a w, Q (.panic c) (a.put d v) w → Q (.panic c) a w := by
  subst hd; exact fun c a w h => hq c a n v w h
theorem wpAnyK_takeNeedQ {st i d : Nat} (path : List Nat) {S : World → Prop} {oi : Oper} {v : Value} {f : Nat} {listed : Array Bool} {a : Act} {w : World} (hi : ops[i]? = some oi)
    (hs : Region.noSelect ops = true) (hc : Closed md ops listed) (hf : Region.free md ops listed i = true) (hr : (Region.ready md ops listed).contains i = true) (his : (i == st) = false) (hw : pathB md ops i st path = true)
    (hq : PanicBlind Q) (hd : oi.dst = some d) (hg : oi.guard = none) (hS : S w) (hy : ∀ w, S w → (execOp a.eval oi).run P w = .ok (.value v) w)
    (h : Closed md ops (listed.setIfInBounds i true) → wpAnyK P md ops Q st S f (listed.setIfInBounds i true) (a.put oi.dst v) w) : wpAnyK P md ops Q st S (f + 1) listed a w :=
  wpAnyK_takeNeed path hi hs hc hf hr his hw (hq.at hd v) hg hS hy h
theorem wpAnyK_takeFreeQ {st i d : Nat} {S : World → Prop} {oi : Oper} {v : Value} {f : Nat} {listed : Array Bool} {a : Act} {w : World} (hi : ops[i]? = some oi)
    (hs : Region.noSelect ops = true) (hc : Closed md ops listed) (hf : Region.free md ops listed i = true) (hr : (Region.ready md ops listed).contains i = true) (his : (i == st) = false)
    (hq : PanicBlind Q) (hd : oi.dst = some d) (hg : oi.guard = none) (hS : S w) (hy : ∀ w, (execOp a.eval oi).run P w = .ok (.value v) w)
    (h : Closed md ops (listed.setIfInBounds i true) → wpAnyK P md ops Q st S f (listed.setIfInBounds i true) (a.put oi.dst v) w) : wpAnyK P md ops Q st S (f + 1) listed a w :=
  wpAnyK_takeFree hi hs hc hf hr his (hq.at hd v) hg hS hy h
end
end Go
