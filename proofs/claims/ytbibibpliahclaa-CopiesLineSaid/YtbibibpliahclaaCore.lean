/-
  What stays true in memory while the results of copies' Play are gathered.
-/
import Derived.Test.YtbibibpliahclaaRep2
import Derived.Deep.AppendLies
namespace Go.Proofs.Ytbibibpliahclaa.Cp
open Go Go.RowKit Mem

def NilS : Value := .slice none 0 0

/-- all but the two rows that grow -/
structure Core (B : Nat) (w : World) (cv ov : Value) (s : St) (codes : List Value) (sv vv : Value) (W : World) : Prop where
  rep : Rep B (B + 1 + 1) (B + 1) ov s W
  out : Blk W (B + 1 + 1 + 1) [cv, ov, sv, vv] 27
  codes : W.ownsRow B 28 1 cv codes.length codes
  res : Blk W B [NilS, NilS, NilS, NilS] 27
  below : Below B w W

variable {B : Nat} {w : World} {cv ov : Value} {s : St} {codes : List Value} {sv vv : Value} {W W' : World}
theorem Core.lt (h : Core B w cv ov s codes sv vv W) : B + 1 + 1 + 1 < W.heap.size := h.out.lt
theorem Core.alloc (h : Core B w cv ov s codes sv vv W) (o : Obj) : Core B w cv ov s codes sv vv (W.alloc o) :=
  ⟨h.rep.alloc o, h.out.alloc o, h.codes.alloc o, h.res.alloc o, h.below.alloc (by have := h.lt; omega) o⟩
theorem Core.drew (h : Core B w cv ov s codes sv vv W) : Core B w cv ov s codes sv vv W.drew :=
  ⟨h.rep.drew, h.out.drew, h.codes.drew, h.res.drew, h.below.drew⟩
theorem Core.grow {v : Value} {n : Nat} {xs : List Value} (h : Core B w cv ov s codes sv vv W) (hv : W.ownsRow B 3 1 v n xs) (hg : W.grownBy W' v.ownBlock) : Core B w cv ov s codes sv vv W' := by
  refine ⟨h.rep.grow hg (ownsRow_ne hv h.rep.all (by decide)) (ownsRow_ne hv h.rep.kept (by decide)) (ownsRow_ne2 h.rep.ops hv (by decide)), h.out.grown hg (ownsRow_ne hv h.out (by decide)), h.codes.kept hg (ownsRow_ne2 h.codes hv (by decide)),
    h.res.grown hg (ownsRow_ne hv h.res (by decide)), ?_⟩
  exact h.below.grown hg (by have := h.lt; omega) fun k hk => (hv.lt k hk).1
theorem Core.set2 (h : Core B w cv ov s codes sv vv W) (v : Value) : Core B w cv ov s codes v vv (W.setCell ⟨B + 1 + 1 + 1, 2, none⟩ v) := by
  obtain ⟨e1, e2, e3⟩ := h.rep.blk_ne h.out (by decide) (by decide) (by decide)
  exact ⟨h.rep.set_far _ _ _ (Ne.symm e1) (Ne.symm e2) e3, h.out.set 2 v, ownsRow_setCell_other h.codes (ownsRow_ne h.codes h.out (by decide)) v, h.res.set_ne _ _ (by simp; omega), h.below.setCell (by simp; omega) v⟩
theorem Core.set3 (h : Core B w cv ov s codes sv vv W) (v : Value) : Core B w cv ov s codes sv v (W.setCell ⟨B + 1 + 1 + 1, 3, none⟩ v) := by
  obtain ⟨e1, e2, e3⟩ := h.rep.blk_ne h.out (by decide) (by decide) (by decide)
  exact ⟨h.rep.set_far _ _ _ (Ne.symm e1) (Ne.symm e2) e3, h.out.set 3 v, ownsRow_setCell_other h.codes (ownsRow_ne h.codes h.out (by decide)) v, h.res.set_ne _ _ (by simp; omega), h.below.setCell (by simp; omega) v⟩
theorem Core.row_set (h : Core B w cv ov s codes sv vv W) {v : Value} {n : Nat} {xs : List Value} (hv : W.ownsRow B 3 1 v n xs) (o : Nat) (u : Value) : (W.setCell ⟨B + 1 + 1 + 1, o, none⟩ u).ownsRow B 3 1 v n xs :=
  ownsRow_setCell_other hv (ownsRow_ne hv h.out (by decide)) u

/-- two rows apart -/
def Apart (v u : Value) : Prop := v.ownBlock = none ∨ v.ownBlock ≠ u.ownBlock
theorem Apart.symm {v u : Value} (h : Apart v u) : Apart u v := by
  unfold Apart at *
  cases hu : u.ownBlock with
  | none => exact .inl rfl
  | some k =>
    refine .inr ?_
    rcases h with h | h
    · rw [h]; simp
    · rw [hu] at h; exact Ne.symm h
theorem Apart.grown {v u : Value} {g n cap H : Nat} (h : Apart v u) (hu : ∀ k, u.ownBlock = some k → k < H) (hat : v.ownBlock = some g ∨ g = H) : Apart (.slice (some ⟨g, 0, none⟩) n cap) u := by
  refine .inr ?_
  show some g ≠ u.ownBlock
  rcases hat with e | e
  · rcases h with h | h
    · rw [h] at e; cases e
    · rw [← e]; exact h
  · intro e'
    have := hu g e'.symm
    omega

/-- after j rounds -/
def Inv2 (B : Nat) (w : World) (cv ov : Value) (s : St) (codes : List Value) (j : Nat) (W : World) : Prop :=
  ∃ sv vv, Core B w cv ov s codes sv vv W ∧ W.ownsRow B 3 1 sv j ((s.l.take j).map fun k => Value.int .i64 k.stamp) ∧ W.ownsRow B 3 1 vv j ((s.l.take j).map fun k => Value.int .i64 k.val) ∧ Apart sv vv

theorem inv2_step {j : Nat} {k : Kept} {sv' vv' : Value} (hk : s.l[j]? = some k) (h : Core B w cv ov s codes sv vv W) (h1 : W.ownsRow B 3 1 sv' (j + 1) ((s.l.take j).map (fun k => Value.int .i64 k.stamp) ++ [.int .i64 k.stamp]))
    (h2 : W.ownsRow B 3 1 vv' (j + 1) ((s.l.take j).map (fun k => Value.int .i64 k.val) ++ [.int .i64 k.val])) (ha : Apart sv' vv') :
    Inv2 B w cv ov s codes (j + 1) ((W.setCell ⟨B + 1 + 1 + 1, 2, none⟩ sv').setCell ⟨B + 1 + 1 + 1, 3, none⟩ vv') := by
  have ht : s.l.take (j + 1) = s.l.take j ++ [k] := by rw [List.take_add_one, hk]; rfl
  have c1 := h.set2 sv'
  refine ⟨sv', vv', c1.set3 vv', ?_, ?_, ha⟩
  · rw [ht, List.map_append]
    exact c1.row_set (h.row_set h1 2 sv') 3 vv'
  · rw [ht, List.map_append]
    exact c1.row_set (h.row_set h2 2 sv') 3 vv'
end Go.Proofs.Ytbibibpliahclaa.Cp
