/-
  The walks through cmp.Compare and cmp.Or at ints.
-/
import Derived.Test.YtaodgbeobdholaaAgain
namespace Go.Proofs.Ytaodgbeobdholaa.Rn
open Go Go.RowKit Mem

def cmpI (a b : Int) : Int := if a < b then -1 else if b < a then 1 else 0
set_option maxHeartbeats 1000000 in
theorem compare_any (a b : Int) (w : World) : Calls Try.prog 23 #[.int .i64 a, .int .i64 b] w fun e w' => e = .returned (.int .i64 (cmpI a b)) ∧ w' = w := by
  rcases Int.lt_trichotomy a b with h | h | h
  · have H : Hid (cmpI a b = -1) := Lib.hid (by unfold cmpI; rw [if_pos h])
    go_enter Try.func23, Try.ntmps23
    go_wp2
    go_ret
    exact ⟨by rw [H.out]; rfl, rfl⟩
  · subst h
    have H : Hid (cmpI a a = 0) := Lib.hid (by unfold cmpI; rw [if_neg (by omega), if_neg (by omega)])
    go_enter Try.func23, Try.ntmps23
    go_wp2
    go_ret
    exact ⟨by rw [H.out]; rfl, rfl⟩
  · have H : Hid (cmpI a b = 1) := Lib.hid (by unfold cmpI; rw [if_neg (by omega), if_pos h])
    have h2 : ¬ a < b := by omega
    go_enter Try.func23, Try.ntmps23
    go_wp2
    go_ret
    exact ⟨by rw [H.out]; rfl, rfl⟩

def orI (a b : Int) : Int := if a = 0 then b else a
set_option maxHeartbeats 1000000 in
theorem or_two (a b : Int) (bl : Nat) (w : World) (h0 : w.cell? ⟨bl, 0, none⟩ = some (.int .i64 a)) (h1 : w.cell? ⟨bl, 1, none⟩ = some (.int .i64 b)) :
    Calls Try.prog 22 #[.slice (some ⟨bl, 0, none⟩) 2 2] w fun e w' => e = .returned (.int .i64 (orI a b)) ∧ w' = w := by
  by_cases ha : a = 0
  · subst ha
    have H : Hid (orI 0 b = b) := Lib.hid (by unfold orI; rw [if_pos rfl])
    by_cases hb : b = 0
    · subst hb
      go_enter Try.func22, Try.ntmps22
      go_wp2
      refine wp_loop_rounds 3 ?_
      rw [rounds_succ]
      go_wp2
      rw [rounds_succ]
      go_wp2
      rw [rounds_succ]
      go_wp2
      go_ret
      exact ⟨by rw [H.out]; rfl, rfl⟩
    · have hb2 : (b == 0) = false := by simpa using hb
      go_enter Try.func22, Try.ntmps22
      go_wp2
      refine wp_loop_rounds 3 ?_
      rw [rounds_succ]
      go_wp2
      rw [rounds_succ]
      go_wp2
      go_ret
      exact ⟨by rw [H.out]; rfl, rfl⟩
  · have ha2 : (a == 0) = false := by simpa using ha
    have H : Hid (orI a b = a) := Lib.hid (by unfold orI; rw [if_neg ha])
    go_enter Try.func22, Try.ntmps22
    go_wp2
    refine wp_loop_rounds 3 ?_
    rw [rounds_succ]
    go_wp2
    go_ret
    exact ⟨by rw [H.out]; rfl, rfl⟩
end Go.Proofs.Ytaodgbeobdholaa.Rn
