/-
  The walk through ran.
-/
import Derived.Test.YtaodgbeobdholaaRCheck
namespace Go.Proofs.Ytaodgbeobdholaa.Rn
open Go Go.RowKit Mem

theorem ran_any (n : Int) (ao : Option Addr) (cap : Nat) (L : List Ev) (hcap : L.length ≤ cap) (w : World) (hL : EvsAt w ao L) :
    Calls Try.prog 9 #[.int .i64 n, .slice ao L.length cap] w fun e w' => e = .returned (.bool (check n L == 0)) ∧ Below w.heap.size w w' := by
  have HL := Lib.hid hL
  clear hL
  go_enter Try.func9, Try.ntmps9
  go_wp2_with fail
  refine (rcheck_any n ao cap L hcap _ HL.out).mono ?_
  rintro e w1 ⟨rfl, hb⟩
  have HB := Lib.hid hb
  clear hb
  go_wp2
  go_ret
  exact ⟨by first | rfl | trivial, HB.out⟩
end Go.Proofs.Ytaodgbeobdholaa.Rn
