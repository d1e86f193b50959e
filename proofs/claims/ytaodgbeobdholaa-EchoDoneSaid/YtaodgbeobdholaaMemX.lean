/-
  Worlds that are as they were below a number but for some blocks (no program is named).
-/
import Derived.Test.YtaodgbeobdholaaMem4
namespace Go.Proofs.Ytaodgbeobdholaa.Mem
open Go Go.RowKit

structure BelowX (B : Nat) (X : List Nat) (w w' : World) : Prop where
  os : w'.os = w.os
  tape : w'.tape = w.tape
  output : w'.output = w.output
  size : w.heap.size ≤ w'.heap.size
  block : ∀ k, k < B → k ∉ X → w'.heap[k]? = w.heap[k]?
section
variable {B : Nat} {X : List Nat} {a w w' : World}
theorem BelowX.refl (B : Nat) (X : List Nat) (w : World) : BelowX B X w w := ⟨rfl, rfl, rfl, Nat.le_refl _, fun _ _ _ => rfl⟩
theorem BelowX.trans (h : BelowX B X a w) (k : BelowX B X w w') : BelowX B X a w' :=
  ⟨k.os.trans h.os, k.tape.trans h.tape, k.output.trans h.output, Nat.le_trans h.size k.size, fun i hi hx => (k.block i hi hx).trans (h.block i hi hx)⟩
theorem BelowX.of (h : Below B w w') : BelowX B X w w' := ⟨h.os, h.tape, h.output, h.size, fun k hk _ => h.block k hk⟩
theorem BelowX.mono {B' : Nat} {X' : List Nat} (h : BelowX B X w w') (hB : B' ≤ B) (hX : ∀ x ∈ X, x < B' → x ∈ X') : BelowX B' X' w w' :=
  ⟨h.os, h.tape, h.output, h.size, fun k hk hx => h.block k (by omega) fun hm => hx (hX k hm hk)⟩
theorem BelowX.below {B' : Nat} (h : BelowX B X w w') (hB : B' ≤ B) (hX : ∀ x ∈ X, B' ≤ x) : Below B' w w' :=
  ⟨h.os, h.tape, h.output, h.size, fun k hk => h.block k (by omega) fun hm => by have := hX k hm; omega⟩
theorem BelowX.alloc (h : BelowX B X a w) (hB : B ≤ w.heap.size) (o : Obj) : BelowX B X a (w.alloc o) := h.trans (.of ((Below.refl B w).alloc hB o))
theorem BelowX.drew (h : BelowX B X a w) : BelowX B X a w.drew := ⟨h.os, h.tape, h.output, h.size, h.block⟩
theorem BelowX.setCell (h : BelowX B X a w) {p : Addr} (hp : B ≤ p.block ∨ p.block ∈ X) (u : Value) : BelowX B X a (w.setCell p u) :=
  h.trans ⟨rfl, rfl, rfl, by simp [World.setCell], fun k hk hx => Below.heap_setCell _ _ _ _ (by rintro rfl; rcases hp with hp | hp; exact absurd hk (by omega); exact hx hp)⟩
theorem BelowX.grown (h : BelowX B X a w) {row : Option Nat} (hg : w.grownBy w' row) (hB : B ≤ w.heap.size) (hr : ∀ k, row = some k → B ≤ k ∨ k ∈ X) : BelowX B X a w' :=
  h.trans ⟨hg.os, hg.tape, hg.output, hg.size, fun k hk hx => hg.block k (by omega) (fun e => by rcases hr k e.symm with h | h; exact absurd hk (by omega); exact hx h)⟩
theorem BelowX.cell (h : BelowX B X w w') {b o : Nat} (hb : b < B) (hx : b ∉ X) : w'.cell? ⟨b, o, none⟩ = w.cell? ⟨b, o, none⟩ := World.cell?_of_block (w := w) (h.block b hb hx)
theorem BelowX.frozen (h : BelowX B X w w') {b o : Nat} (hb : b < B) (hx : b ∉ X) : w'.frozen? ⟨b, o, none⟩ = w.frozen? ⟨b, o, none⟩ := World.frozen?_of_block (w := w) (h.block b hb hx)
theorem Blk.belowX {b : Nat} {l : List Value} {T : TypeId} (h : Blk w b l T) (k : BelowX B X w w') (hb : b < B) (hx : b ∉ X) : Blk w' b l T := h.of_block (k.block b hb hx)
end
/-- a row that is owned stays so where its block is as it was -/
theorem ownsRow_of_block {w w' : World} {base : Nat} {e : TypeId} {size : Nat} {v : Value} {n : Nat} {xs : List Value} (h : w.ownsRow base e size v n xs) (he : ∀ g, v.ownBlock = some g → w'.heap[g]? = w.heap[g]?) : w'.ownsRow base e size v n xs := by
  refine ⟨h.1, ?_⟩
  rcases h.2 with h1 | ⟨g, cap, cur, h1, h2, h3, h4⟩
  · exact .inl h1
  · exact .inr ⟨g, cap, cur, h1, h2, (he g (by rw [h1]; rfl)).trans h3, h4⟩
theorem ownsRow_set_ne {w : World} {base : Nat} {e : TypeId} {size : Nat} {v : Value} {n : Nat} {xs : List Value} (h : w.ownsRow base e size v n xs) (p : Addr) (u : Value) (hne : v.ownBlock ≠ some p.block) : (w.setCell p u).ownsRow base e size v n xs :=
  ownsRow_of_block h fun g hg => Below.heap_setCell _ _ _ _ (by rintro rfl; exact hne hg)
theorem ownsRow_lift {w : World} {base base' : Nat} {e : TypeId} {size : Nat} {v : Value} {n : Nat} {xs : List Value} (h : w.ownsRow base e size v n xs) (hb : ∀ g, v.ownBlock = some g → base' ≤ g) : w.ownsRow base' e size v n xs := by
  refine ⟨h.1, ?_⟩
  rcases h.2 with h1 | ⟨g, cap, cur, h1, h2, h3, h4⟩
  · exact .inl h1
  · exact .inr ⟨g, cap, cur, h1, hb g (by rw [h1]; rfl), h3, h4⟩
/-- the form of a slice value that is owned -/
theorem ownsRow_slice {w : World} {base : Nat} {e : TypeId} {size : Nat} {v : Value} {n : Nat} {xs : List Value} (h : w.ownsRow base e size v n xs) : ∃ oa cap, v = .slice oa n cap ∧ n ≤ cap := by
  rcases h.2 with ⟨h1, h2⟩ | ⟨g, cap, cur, h1, h2, h3, h4, h5⟩
  · exact ⟨none, 0, by rw [h1, h2], by omega⟩
  · exact ⟨_, cap, h1, h4⟩
end Go.Proofs.Ytaodgbeobdholaa.Mem
