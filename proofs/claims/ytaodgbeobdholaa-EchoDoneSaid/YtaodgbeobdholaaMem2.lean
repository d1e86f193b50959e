/-
  More small laws on blocks and rows (no program is named).
-/
import Derived.Test.YtaodgbeobdholaaMem
namespace Go.Proofs.Ytaodgbeobdholaa.Mem
open Go Go.RowKit

/-- Rows of different element types are different blocks. -/
theorem ownsRow_ne {w : World} {base : Nat} {e : TypeId} {size : Nat} {v : Value} {n : Nat} {xs : List Value} (h : w.ownsRow base e size v n xs) {b : Nat} {l : List Value} {T : TypeId} (hb : Blk w b l T) (he : e ≠ T) : v.ownBlock ≠ some b := by
  intro e1
  rcases h.2 with ⟨h1, _⟩ | ⟨g, cap, cur, h1, _, hg, _⟩
  · subst h1; simp [Value.ownBlock] at e1
  · subst h1
    simp [Value.ownBlock] at e1
    subst e1
    unfold Blk at hb
    rw [hg] at hb
    simp at hb
    exact he hb.2
theorem ownsRow_ne2 {w : World} {base base' : Nat} {e e' : TypeId} {size size' : Nat} {v v' : Value} {n n' : Nat} {xs xs' : List Value} (h : w.ownsRow base e size v n xs) (h' : w.ownsRow base' e' size' v' n' xs') (he : e ≠ e') :
    v.ownBlock = none ∨ v.ownBlock ≠ v'.ownBlock := by
  rcases h'.2 with ⟨h1, _⟩ | ⟨g, cap, cur, h1, _, hg, _⟩
  · subst h1
    cases hv : v.ownBlock with
    | none => exact .inl rfl
    | some x => exact .inr (by simp [Value.ownBlock])
  · subst h1
    refine .inr ?_
    have hb : Blk w g cur.toList e' := by unfold Blk; simpa using hg
    simpa [Value.ownBlock] using ownsRow_ne h hb he
theorem Blk.grown {w w' : World} {b : Nat} {l : List Value} {T : TypeId} {row : Option Nat} (h : Blk w b l T) (hg : w.grownBy w' row) (hne : row ≠ some b) : Blk w' b l T :=
  h.of_block (hg.block b h.lt (Ne.symm hne))

end Go.Proofs.Ytaodgbeobdholaa.Mem
