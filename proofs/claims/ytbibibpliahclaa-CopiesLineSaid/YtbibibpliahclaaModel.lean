/-
  What the copies' code computes, as plain functions (no program is named).
-/
namespace Go.Proofs.Ytbibibpliahclaa.Cp

structure Kept where
  stamp : Int
  val : Int
  deriving Inhabited, DecidableEq
structure Cl where
  part : Int
  beg : Int
  wr : Bool
  val : Int
  reached : Nat
  many : Int
  bs : Int
  bv : Int
  deriving Inhabited, DecidableEq
structure Op where
  frm : Int
  beg : Int
  fin : Int
  wr : Bool
  val : Int
  deriving Inhabited, DecidableEq
structure St where
  l : List Kept
  failed : Nat
  cl : List Cl
  ops : List Op
  deriving Inhabited
structure Move where
  kind : Int
  frm : Int
  to : Int
  val : Int
  deriving Inhabited, DecidableEq

def above (s i : Int) : Int := if s - s % 6 + i ≤ s then s - s % 6 + i + 6 else s - s % 6 + i

def putc (s : St) (i : Nat) (c : Cl) : St := { s with cl := s.cl.set i c }
theorem putc_putc (s : St) (i : Nat) (c c' : Cl) : putc (putc s i c) i c' = putc s i c' := by simp [putc]

/-- asks, or puts -/
def meet (c : Cl) (k : Kept) : Cl × Kept :=
  if c.part = 1 ∧ c.bs < k.stamp then ({ c with bs := k.stamp, bv := k.val }, k)
  else if c.part = 2 ∧ k.stamp < c.bs then (c, ⟨c.bs, c.bv⟩)
  else (c, k)
def turn (i : Nat) (c : Cl) : Cl :=
  if c.wr then { c with part := 2, reached := 0, many := 0, bs := above c.bs i, bv := c.val } else { c with part := 2, reached := 0, many := 0 }
def reach (s : St) (i t : Nat) (c : Cl) (k : Kept) (now : Int) : St :=
  let c1 : Cl := { c with reached := c.reached ||| 2 ^ t, many := c.many + 1 }
  let c2 := (meet c1 k).1
  let l2 := s.l.set t (meet c1 k).2
  if 2 * (c.many + 1) ≤ s.l.length then { putc s i c2 with l := l2 }
  else if c.part = 1 then { putc s i (turn i c2) with l := l2 }
  else { putc s i { c2 with part := 0, reached := 0, many := 0 } with l := l2, ops := s.ops ++ [⟨i, c.beg, now, c.wr, c2.bv⟩] }

def fresh (m : Move) (now : Int) : Cl := { part := 1, beg := now, wr := decide (0 ≤ m.val), val := max m.val 0, reached := 0, many := 0, bs := 0, bv := 0 }

def bit (x t : Nat) : Bool := x / 2 ^ t % 2 == 1

def step (s : St) (m : Move) (now : Int) : St × Int :=
  if m.kind < 1 ∨ 3 < m.kind then (s, 6)
  else if (m.kind ≠ 3 ∧ ¬ (0 ≤ m.frm ∧ m.frm < 6)) ∨ (m.kind ≠ 1 ∧ ¬ (0 ≤ m.to ∧ m.to < s.l.length)) then (s, 2)
  else if m.kind = 3 then
    if bit s.failed m.to.toNat then (s, 7) else ({ s with failed := s.failed ||| 2 ^ m.to.toNat }, 0)
  else
    let c := s.cl.getD m.frm.toNat default
    if (decide (m.kind = 1)) = (decide (0 < c.part)) then (s, 7)
    else if m.kind = 1 then (putc s m.frm.toNat (fresh m now), 0)
    else if bit c.reached m.to.toNat then (s, 8)
    else if bit s.failed m.to.toNat then (s, 5)
    else (reach s m.frm.toNat m.to.toNat c (s.l.getD m.to.toNat default) now, 0)

def init (n : Nat) : St := { l := List.replicate n ⟨0, 0⟩, failed := 0, cl := List.replicate 6 ⟨0, 0, false, 0, 0, 0, 0, 0⟩, ops := [] }

/-- The state behind the first moves, and their codes. -/
def run (s : St) : List Move → Int → St × List Int
  | [], _ => (s, [])
  | m :: r, now => let p := step s m now; let q := run p.1 r (now + 1); (q.1, p.2 :: q.2)
end Go.Proofs.Ytbibibpliahclaa.Cp
