/- Layer 31: ArchiveReads: the walk. -/
import Derived.Test.YtpfjidijecgjcaaAdK
import Derived.Test.YtpfjidijecgjcaaAdG
import Derived.Deep.DeepCutAuto
namespace Go.Proofs.Ytpfjidijecgjcaa
open Go.RowKit Fl Ieee
set_option maxRecDepth 20000
set_option maxHeartbeats 4000000 in
theorem Reads_walk (A : Option Addr) (p : List Nat) (c : Nat) (w : World) (hr : Reads w w.heap.size A (bytesV p)) (hb : okB p) (hc : p.length ≤ c) : Calls Try.prog 6 #[.slice A p.length c] w (RetBB31 true w) := by
  have HR := Lib.hid hr
  have HOk := Lib.hid hb
  have HC := Lib.hid hc
  obtain ⟨pn, hpn⟩ : ∃ pn, pn = p.length := ⟨_, rfl⟩
  rw [← hpn]
  have HPn := Lib.hid hpn
  clear hr hb hc hpn
  go_enter Try.func6, Try.ntmps6
  go_wp2_with fail
  refine (awake31_c w).mono ?_
  rintro e W1 ⟨rfl, hb1⟩
  have HB1 := Lib.hid hb1
  have HD := Lib.hid (Decode_c p A c W1 ((HR.out.below hb1).more hb1.size) HOk.out HC.out)
  rw [← HPn.out] at HD
  clear hb1
  go_wp2_with fail
  refine HD.out.mono ?_
  rintro e W2 ⟨v, er, rfl, hb2, hcase⟩
  have HB2 := Lib.hid (HB1.out.trans (hb2.mono HB1.out.size))
  clear hb2 HD
  rcases hcase with ⟨rfl, rfl⟩ | ⟨rfl, acc, hok, hlen, hat, henc⟩
  · go_wp2
    go_ret
    exact ⟨rfl, HB2.out⟩
  · have HE := Lib.hid (Encode_c acc hok hlen v W2 hat)
    have HEn := Lib.hid henc
    have hpl : pn ≤ 5000000 := by rw [HPn.out, ← henc, ← preE_all]; exact preE_len hok _ hlen
    clear hok hlen hat henc
    go_wp2_with fail
    refine HE.out.mono ?_
    rintro e W3 ⟨vb, rfl, hob, hb3⟩
    rw [HEn.out] at hob
    obtain ⟨bA, bc, rfl, hbr, hbn, -⟩ := own_reads hob
    have hb4 := HB2.out.trans (hb3.mono HB2.out.size)
    have HSb := Lib.hid (SameBytes_t bA A p pn bc c W3 HPn.out.symm (by omega) hbr ((HR.out.below hb4).more hb4.size))
    have HB4 := Lib.hid hb4
    rw [← HPn.out]
    clear hob hbr hbn hb4 hb3 HE
    go_wp2_with fail
    refine HSb.out.mono ?_
    rintro e W4 ⟨n1, rfl, rfl⟩
    go_wp2
    go_ret
    exact ⟨rfl, below_drewN HB4.out _⟩
end Go.Proofs.Ytpfjidijecgjcaa
