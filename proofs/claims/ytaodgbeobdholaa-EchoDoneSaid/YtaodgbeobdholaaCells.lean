/-
  Rows of cells: made, set (no program is named).
-/
import Derived.Test.YtaodgbeobdholaaMem2
import Derived.Laws.MakeOwn
namespace Go.Proofs.Ytaodgbeobdholaa.Mem
open Go Go.RowKit

theorem made_row (z : Value) (n : Nat) : madeCells #[z] n = (List.replicate n z).toArray := by
  unfold madeCells
  apply Array.ext
  · simp
  · intro i h1 h2
    simp at h1 ⊢
    simp [Nat.mod_one]
/-- the values of a function at 0 .. n - 1 -/
def rowOf (n : Nat) (g : Nat → Value) : List Value := (List.range n).map g
theorem rowOf_get {n : Nat} {g : Nat → Value} {i : Nat} (h : i < n) : (rowOf n g)[i]? = some (g i) := by
  unfold rowOf; simp [h]
theorem rowOf_len (n : Nat) (g : Nat → Value) : (rowOf n g).length = n := by simp [rowOf]
theorem rowOf_set {n : Nat} {g : Nat → Value} {i : Nat} (v : Value) : (rowOf n g).set i v = rowOf n (fun j => if j = i then v else g j) := by
  unfold rowOf
  apply List.ext_getElem?
  intro j
  rw [List.getElem?_set]
  by_cases h : i = j
  · subst h
    by_cases hi : i < n
    · simp [hi]
    · simp [hi]
  · rw [if_neg h]
    by_cases hj : j < n
    · simp [hj, Ne.symm h]
    · simp [hj]
theorem rowOf_congr {n : Nat} {g g' : Nat → Value} (h : ∀ i, i < n → g i = g' i) : rowOf n g = rowOf n g' := by
  unfold rowOf
  exact List.map_congr_left fun i hi => h i (List.mem_range.1 hi)
theorem rowOf_replicate (n : Nat) (z : Value) : List.replicate n z = rowOf n (fun _ => z) := by
  unfold rowOf
  apply List.ext_getElem?
  intro j
  by_cases hj : j < n
  · simp [hj]
  · simp [hj]
end Go.Proofs.Ytaodgbeobdholaa.Mem
