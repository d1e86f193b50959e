/-
  What run.Past computes, as plain functions (no program is named).
-/
import Derived.Test.YtaodgbeobdholaaRunModel
namespace Go.Proofs.Ytaodgbeobdholaa.Rn

def upN (f : Int → Nat) (k : Int) (v : Nat) : Int → Nat := fun x => if x = k then v else f x
/-- what is ahead of an event: c: of each process its last event and all ahead of it; s: of each message the like of its sending -/
def pastOf (c s : Int → Nat) (e : Ev) : Nat := if e.kind = 3 then c e.proc ||| s e.msg else c e.proc
def psts (c s : Int → Nat) : Nat → List Ev → List Nat
  | _, [] => []
  | i, e :: r => pastOf c s e :: psts (upN c e.proc (pastOf c s e ||| 2 ^ i)) (if e.kind = 2 then upN s e.msg (pastOf c s e ||| 2 ^ i) else s) (i + 1) r
def pasts (L : List Ev) : List Nat := psts (fun _ => 0) (fun _ => 0) 0 L
theorem psts_cons (c s : Int → Nat) (i : Nat) (e : Ev) (r : List Ev) : psts c s i (e :: r) = pastOf c s e :: psts (upN c e.proc (pastOf c s e ||| 2 ^ i)) (if e.kind = 2 then upN s e.msg (pastOf c s e ||| 2 ^ i) else s) (i + 1) r := rfl
theorem psts_len (L : List Ev) : ∀ c s i, (psts c s i L).length = L.length := by
  induction L with
  | nil => intro c s i; rfl
  | cons e L ih => intro c s i; rw [psts_cons]; simp [ih]
structure PsS (L : List Ev) (k : Nat) (c s : Int → Nat) (T : List Nat) : Prop where
  all : pasts L = T ++ psts c s k (L.drop k)
  len : T.length = k
  c0 : ∀ x, c x < 2 ^ k
  s0 : ∀ x, s x < 2 ^ k
theorem PsS.start (L : List Ev) : PsS L 0 (fun _ => 0) (fun _ => 0) [] := ⟨rfl, rfl, fun _ => by simp, fun _ => by simp⟩
theorem PsS.past {L : List Ev} {k : Nat} {c s : Int → Nat} {T : List Nat} (h : PsS L k c s T) (e : Ev) : pastOf c s e < 2 ^ k := by
  unfold pastOf
  split
  · exact Nat.or_lt_two_pow (h.c0 _) (h.s0 _)
  · exact h.c0 _
theorem PsS.next {L : List Ev} {k : Nat} {c s : Int → Nat} {T : List Nat} (h : PsS L k c s T) (e : Ev) : pastOf c s e ||| 2 ^ k < 2 ^ (k + 1) :=
  Nat.or_lt_two_pow (Nat.lt_of_lt_of_le (h.past e) (Nat.pow_le_pow_right (by omega) (by omega))) (Nat.pow_lt_pow_right (by omega) (by omega))
theorem PsS.step {L : List Ev} {k : Nat} {c s : Int → Nat} {T : List Nat} (h : PsS L k c s T) {e : Ev} (he : L[k]? = some e) :
    PsS L (k + 1) (upN c e.proc (pastOf c s e ||| 2 ^ k)) (if e.kind = 2 then upN s e.msg (pastOf c s e ||| 2 ^ k) else s) (T ++ [pastOf c s e]) := by
  have hn := h.next e
  have hk : 2 ^ k < 2 ^ (k + 1) := Nat.pow_lt_pow_right (by omega) (by omega)
  refine ⟨?_, by simp [h.len], fun x => ?_, fun x => ?_⟩
  · rw [h.all, drop_get he, psts_cons]; simp
  · have := h.c0 x; unfold upN; split <;> omega
  · have := h.s0 x
    split
    · unfold upN; split <;> omega
    · omega
end Go.Proofs.Ytaodgbeobdholaa.Rn
