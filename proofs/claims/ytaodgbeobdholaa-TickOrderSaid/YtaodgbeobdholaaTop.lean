/-
  The walk through TickOrder.
-/
import Derived.Test.YtaodgbeobdholaaOrder
import Derived.Outline
namespace Go.Proofs.Ytaodgbeobdholaa.Rn
open Go Go.RowKit Mem

set_option maxHeartbeats 2000000 in
theorem tick_law (n : Int) (ao : Option Addr) (cap : Nat) (L : List Ev) (hcap : L.length ≤ cap) (w : World) (hL : EvsAt w ao L) :
    Calls Try.prog 3 #[.int .i64 n, .slice ao L.length cap] w fun e w' => e = .returned (.bool true) ∧ Below w.heap.size w w' := by
  have HL := Lib.hid hL
  clear hL
  by_cases hc : check n L = 0
  · have HC := Lib.hid hc
    go_enter Try.func3, Try.ntmps3
    go_wp2_with fail
    refine (order_good n ao cap L _ hc HL.out).mono ?_
    clear hc
    rintro e w1 ⟨oa, oc, O, rfl, hG, hO, hb⟩
    have HG := Lib.hid hG
    have HO := Lib.hid hO
    have HB := Lib.hid hb
    have hlen := Lib.hid hG.len
    clear hG hO hb
    go_wp2_with fail
    refine (ran_any n ao cap L hcap _ (HL.out.later HB.out)).mono ?_
    rintro e w2 ⟨rfl, hb2⟩
    have hbeq : (check n L == 0) = true := by rw [HC.out]; rfl
    have HB2 := Lib.hid (HB.out.trans (hb2.mono HB.out.size))
    have HO2 := Lib.hid (HO.out.later hb2)
    clear hb2
    rw [hbeq]
    clear hbeq
    go_wp2_with fail
    refine (again_good n ao oa cap oc L O _ HC.out HG.out (HL.out.later HB2.out) HO2.out).mono ?_
    rintro e w3 ⟨rfl, hb3⟩
    have HB3 := Lib.hid (HB2.out.trans (hb3.mono HB2.out.size))
    clear hb3
    have hl2 : (O.length : Int) = L.length := by have := hlen.out; omega
    clear hlen
    go_wp2
    go_ret
    exact ⟨by first | rfl | trivial, HB3.out⟩
  · have hbeq : (check n L == 0) = false := by simpa using hc
    have HNE : Hid ((check n L != 0) = true) := Lib.hid (by simpa using hc)
    go_enter Try.func3, Try.ntmps3
    go_wp2_with fail
    refine (order_bad n ao cap L _ hc HL.out).mono ?_
    rintro e w1 ⟨rfl, hb⟩
    have HB := Lib.hid hb
    clear hb
    go_wp2_with fail
    refine (ran_any n ao cap L hcap _ (HL.out.later HB.out)).mono ?_
    rintro e w2 ⟨rfl, hb2⟩
    have HB2 := Lib.hid (HB.out.trans (hb2.mono HB.out.size))
    clear hb2 hc
    rw [hbeq]
    go_wp2
    go_ret
    exact ⟨congrArg (fun b => Ending.returned (.bool b)) HNE.out, HB2.out⟩
end Go.Proofs.Ytaodgbeobdholaa.Rn
