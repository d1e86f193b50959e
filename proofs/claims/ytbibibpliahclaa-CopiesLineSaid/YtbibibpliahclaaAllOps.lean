/-
  The list that the law hands to line: what was done, and what was begun and seen (no program is named).
-/
import Derived.Test.YtbibibpliahclaaLineModel
namespace Go.Proofs.Ytbibibpliahclaa.Cp

def doneIn (ops : List Op) (frm : Int) (i : Nat) : Bool := ops.any fun o => decide (o.frm = frm) && decide (o.beg = i)
def seenIn (ops : List Op) (val : Int) : Bool := ops.any fun o => !o.wr && decide (o.val = val)
/-- what move i adds -/
def pendOf (ops : List Op) (codes : List Int) (len : Nat) (i : Nat) (m : Move) : List Op :=
  if m.kind = 1 ∧ codes.getD i 0 = 0 ∧ 0 ≤ m.val ∧ doneIn ops m.frm i = false ∧ seenIn ops m.val = true then [⟨m.frm, i, len + 1, true, m.val⟩] else []
def pends (ops : List Op) (codes : List Int) (len : Nat) : Nat → List Move → List Op
  | _, [] => []
  | i, m :: r => pendOf ops codes len i m ++ pends ops codes len (i + 1) r
def allOps (n : Nat) (L : List Move) : List Op :=
  (run (init n) L 0).1.ops ++ pends (run (init n) L 0).1.ops (run (init n) L 0).2 L.length 0 L

theorem doneIn_snoc (ops : List Op) (x : Nat) (o : Op) (h : ops[x]? = some o) (frm : Int) (i : Nat) : doneIn (ops.take (x + 1)) frm i = (doneIn (ops.take x) frm i || (decide (o.frm = frm) && decide (o.beg = i))) := by
  have : ops.take (x + 1) = ops.take x ++ [o] := by rw [List.take_add_one, h]; rfl
  rw [this]
  simp [doneIn]
theorem seenIn_snoc (ops : List Op) (x : Nat) (o : Op) (h : ops[x]? = some o) (val : Int) : seenIn (ops.take (x + 1)) val = (seenIn (ops.take x) val || (!o.wr && decide (o.val = val))) := by
  have : ops.take (x + 1) = ops.take x ++ [o] := by rw [List.take_add_one, h]; rfl
  rw [this]
  simp [seenIn]

theorem pends_snoc (ops : List Op) (codes : List Int) (len : Nat) (l : List Move) (m : Move) (i : Nat) :
    pends ops codes len i (l ++ [m]) = pends ops codes len i l ++ pendOf ops codes len (i + l.length) m := by
  induction l generalizing i with
  | nil => simp [pends]
  | cons a l ih => simp only [List.cons_append, pends, ih, List.append_assoc, List.length_cons]; rw [show i + 1 + l.length = i + (l.length + 1) by omega]
theorem pendOf_len (ops : List Op) (codes : List Int) (len i : Nat) (m : Move) : (pendOf ops codes len i m).length ≤ 1 := by
  unfold pendOf; split <;> simp
theorem pends_len (ops : List Op) (codes : List Int) (len : Nat) (l : List Move) (i : Nat) : (pends ops codes len i l).length ≤ l.length := by
  induction l generalizing i with
  | nil => simp [pends]
  | cons a l ih =>
    have := pendOf_len ops codes len i a
    have := ih (i + 1)
    simp only [pends, List.length_append, List.length_cons]
    omega
end Go.Proofs.Ytbibibpliahclaa.Cp
