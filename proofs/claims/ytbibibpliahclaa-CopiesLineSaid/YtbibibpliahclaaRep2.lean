/-
  How the copies' state lives beside other blocks.
-/
import Derived.Test.YtbibibpliahclaaRep
import Derived.Test.YtbibibpliahclaaMem2
namespace Go.Proofs.Ytbibibpliahclaa.Cp
open Go Go.RowKit Mem

theorem Rep.grow {B ba bl : Nat} {ov : Value} {s : St} {w w' : World} {row : Option Nat} (h : Rep B ba bl ov s w) (hg : w.grownBy w' row) (ha : row ≠ some ba) (hl : row ≠ some bl) (ho : ov.ownBlock = none ∨ ov.ownBlock ≠ row) :
    Rep B ba bl ov s w' := ⟨h.all.grown hg ha, h.kept.grown hg hl, h.ops.kept hg ho, h.loa, h.lol, h.six⟩
theorem Rep.set_far {B ba bl : Nat} {ov : Value} {s : St} {w : World} (h : Rep B ba bl ov s w) (b o : Nat) (v : Value) (ha : ba ≠ b) (hl : bl ≠ b) (ho : ov.ownBlock ≠ some b) : Rep B ba bl ov s (w.setCell ⟨b, o, none⟩ v) :=
  ⟨h.all.set_ne _ _ ha, h.kept.set_ne _ _ hl, ownsRow_setCell_other h.ops ho v, h.loa, h.lol, h.six⟩
theorem Rep.blk_ne {B ba bl : Nat} {ov : Value} {s : St} {w : World} (h : Rep B ba bl ov s w) {b : Nat} {l : List Value} {T : TypeId} (hb : Blk w b l T) (h1 : T ≠ 48) (h2 : T ≠ 43) (h3 : T ≠ 35) : b ≠ ba ∧ b ≠ bl ∧ ov.ownBlock ≠ some b :=
  ⟨fun e => h1 (by subst e; exact hb.inj h.all), fun e => h2 (by subst e; exact hb.inj h.kept), ownsRow_ne h.ops hb (Ne.symm h3)⟩
/-- a block of another type stays -/
theorem Rep.blk_later {B ba bl : Nat} {ov : Value} {s : St} {w w' : World} (h : Rep B ba bl ov s w) (hf : Fr ba bl ov w w') {b : Nat} {l : List Value} {T : TypeId} (hb : Blk w b l T) (h1 : T ≠ 48) (h2 : T ≠ 43) (h3 : T ≠ 35) : Blk w' b l T := by
  obtain ⟨e1, e2, e3⟩ := h.blk_ne hb h1 h2 h3
  exact hb.of_block (hf.block b hb.lt e1 e2 e3)
theorem Rep.row_later {B ba bl : Nat} {ov : Value} {s : St} {w w' : World} (h : Rep B ba bl ov s w) (hf : Fr ba bl ov w w') {base e size : Nat} {v : Value} {n : Nat} {xs : List Value} (hb : w.ownsRow base e size v n xs) (h1 : e ≠ 48) (h2 : e ≠ 43) (h3 : e ≠ 35) : w'.ownsRow base e size v n xs := by
  refine ⟨hb.1, ?_⟩
  rcases hb.2 with hb | ⟨g, cap, cur, hv, hg, hh, r⟩
  · exact .inl hb
  · have hB : Blk w g cur.toList e := by unfold Blk; simpa using hh
    have := h.blk_later hf hB h1 h2 h3
    unfold Blk at this
    exact .inr ⟨g, cap, cur, hv, hg, by simpa using this, r⟩
theorem Rep.below {B ba bl : Nat} {ov : Value} {s : St} {w w' : World} (h : Rep B ba bl ov s w) (hf : Fr ba bl ov w w') (hB : B ≤ w.heap.size) : Below B w w' :=
  ⟨hf.os, hf.tape, hf.output, hf.size, fun k hk => hf.block k (by omega) (by have := h.loa; omega) (by have := h.lol; omega) (fun e => by have := (h.ops.lt k e).1; omega)⟩
end Go.Proofs.Ytbibibpliahclaa.Cp
