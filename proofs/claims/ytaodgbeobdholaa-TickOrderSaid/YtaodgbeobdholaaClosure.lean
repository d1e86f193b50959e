/-
  The walk through the comparison that Order hands to the sort.
-/
import Derived.Test.YtaodgbeobdholaaCmp
import Derived.Deep.RegionHeld3
namespace Go.Proofs.Ytaodgbeobdholaa.Rn
open Go Go.RowKit Mem

set_option maxHeartbeats 2000000 in
theorem closure_any (i j : Nat) (N cap tb lb T eb off : Nat) (ti tj pi pj : Int) (W : World) (hi : i < N) (hj : j < N)
    (c0 : W.cell? ⟨tb, 0, none⟩ = some (.slice (some ⟨T, 0, none⟩) N N)) (c1 : W.cell? ⟨lb, 0, none⟩ = some (.slice (some ⟨eb, off, none⟩) N cap))
    (a0 : W.cell? ⟨T, i, none⟩ = some (.int .i64 ti)) (a1 : W.cell? ⟨T, j, none⟩ = some (.int .i64 tj))
    (e0 : W.cell? ⟨eb, off + i * 3, none⟩ = some (.int .i64 pi)) (e1 : W.cell? ⟨eb, off + j * 3, none⟩ = some (.int .i64 pj)) :
    Calls Try.prog 21 #[.int .i64 i, .int .i64 j, .pointer (some ⟨tb, 0, none⟩), .pointer (some ⟨lb, 0, none⟩)] W fun e w' => e = .returned (.int .i64 (orI (cmpI ti tj) (cmpI pi pj))) ∧ w' = (W.alloc (.cells #[.int .i64 (cmpI ti tj), .int .i64 (cmpI pi pj)] 3)).drew := by
  go_enter Try.func21, Try.ntmps21
  go_wp2
  go_region_held3 (fun w' => w'.cell? ⟨tb, 0, none⟩ = some (.slice (some ⟨T, 0, none⟩) N N) ∧ w'.cell? ⟨lb, 0, none⟩ = some (.slice (some ⟨eb, off, none⟩) N cap) ∧ w'.cell? ⟨T, i, none⟩ = some (.int .i64 ti) ∧ w'.cell? ⟨T, j, none⟩ = some (.int .i64 tj) ∧
      w'.cell? ⟨eb, off + i * 3, none⟩ = some (.int .i64 pi) ∧ w'.cell? ⟨eb, off + j * 3, none⟩ = some (.int .i64 pj))
    (first | exact ⟨c0, c1, a0, a1, e0, e1⟩ | go_keep)
    (first | (go_at_call 23; refine (compare_any _ _ _).mono ?_; rintro e w3 ⟨rfl, rfl⟩) | (go_at_call 22; refine (or_two (cmpI ti tj) (cmpI pi pj) _ _ (by first | exact (Blk.new _ [_, _] 3).cell (o := 0) rfl | exact (Blk.new _ [_, _] 3).drew.cell (o := 0) rfl | trace_state) (by first | exact (Blk.new _ [_, _] 3).cell (o := 1) rfl | exact (Blk.new _ [_, _] 3).drew.cell (o := 1) rfl)).mono ?_; rintro e w3 ⟨rfl, rfl⟩))
  all_goals go_wp2
  all_goals go_ret
  all_goals exact ⟨by first | rfl | trivial, by first | rfl | trivial⟩
end Go.Proofs.Ytaodgbeobdholaa.Rn
