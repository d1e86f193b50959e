/-
  Small laws on blocks of memory that are known whole (no program is named).
-/
import Derived.Test.YtaodgbeobdholaaRows
import Derived.WalkKit
import Derived.WalkSpells
import Derived.WalkLawsBesides
namespace Go.Proofs.Ytaodgbeobdholaa.Mem
open Go Go.RowKit

/-- Block b is the row of cells l of element type T; none of it is frozen. -/
def Blk (w : World) (b : Nat) (l : List Value) (T : TypeId) : Prop := w.heap[b]? = some (.cells l.toArray T (0, 0))

theorem Blk.lt {w : World} {b : Nat} {l : List Value} {T : TypeId} (h : Blk w b l T) : b < w.heap.size := lt_of_block h
theorem Blk.cell {w : World} {b : Nat} {l : List Value} {T : TypeId} (h : Blk w b l T) {o : Nat} {v : Value} (hv : l[o]? = some v) :
    w.cell? ⟨b, o, none⟩ = some v := by
  unfold Blk at h
  simp [World.cell?, h, hv]
theorem Blk.frozen {w : World} {b : Nat} {l : List Value} {T : TypeId} (h : Blk w b l T) (o : Nat) :
    w.frozen? ⟨b, o, none⟩ = false := by
  unfold Blk at h
  simp [World.frozen?, h]
theorem Blk.drewN {w : World} {b : Nat} {l : List Value} {T : TypeId} (h : Blk w b l T) (n : Nat) : Blk (w.drewN n) b l T := h
theorem Blk.drew {w : World} {b : Nat} {l : List Value} {T : TypeId} (h : Blk w b l T) : Blk w.drew b l T := h
theorem Blk.of_block {w w' : World} {b : Nat} {l : List Value} {T : TypeId} (h : Blk w b l T) (e : w'.heap[b]? = w.heap[b]?) : Blk w' b l T := e.trans h
theorem Blk.set {w : World} {b : Nat} {l : List Value} {T : TypeId} (h : Blk w b l T) (o : Nat) (v : Value) :
    Blk (w.setCell ⟨b, o, none⟩ v) b (l.set o v) T := by
  unfold Blk at h ⊢
  have hlt := lt_of_block h
  show (w.heap.modify b _)[b]? = _
  rw [Array.getElem?_modify, if_pos rfl, h]
  simp
theorem Blk.set_ne {w : World} {b : Nat} {l : List Value} {T : TypeId} (h : Blk w b l T) (a : Addr) (v : Value) (hne : b ≠ a.block) :
    Blk (w.setCell a v) b l T := by
  unfold Blk at h ⊢
  rw [Below.heap_setCell _ _ _ _ hne]; exact h
theorem Blk.alloc {w : World} {b : Nat} {l : List Value} {T : TypeId} (h : Blk w b l T) (o : Obj) : Blk (w.alloc o) b l T := by
  have := h.lt
  unfold Blk at h ⊢
  rw [Below.heap_alloc _ _ _ this]; exact h
theorem Blk.new (w : World) (l : List Value) (T : TypeId) : Blk (w.alloc (.cells l.toArray T (0, 0))) w.heap.size l T :=
  heap_alloc_new w _
theorem Blk.below {B : Nat} {w w' : World} {b : Nat} {l : List Value} {T : TypeId} (h : Blk w b l T) (hb : Below B w w') (hlt : b < B) : Blk w' b l T :=
  h.of_block (hb.block b hlt)
theorem Blk.inj {w : World} {b : Nat} {l l' : List Value} {T T' : TypeId} (h : Blk w b l T) (h' : Blk w b l' T') : T = T' := by
  unfold Blk at h h'
  rw [h] at h'
  simp at h'
  exact h'.2

/-- A long world is given a name: what is known of it comes along. -/
theorem gen_world {P : World → Prop} {Q : World → Prop} (w : World) (h : Q w) (k : ∀ w', Q w' → P w') : P w := k w h

/-- Rows of records of k cells each: reading and writing a field. -/
theorem flat_len {α : Type} (f : α → List Value) (k : Nat) (hf : ∀ a, (f a).length = k) (l : List α) : (l.flatMap f).length = l.length * k := by
  induction l with
  | nil => simp
  | cons a l ih => simp [hf, ih]; rw [Nat.add_mul]; omega
theorem flat_get {α : Type} (f : α → List Value) (k : Nat) (hf : ∀ a, (f a).length = k) (l : List α) (i j : Nat) (a : α) (ha : l[i]? = some a) (hj : j < k) :
    (l.flatMap f)[i * k + j]? = (f a)[j]? := by
  induction l generalizing i with
  | nil => simp at ha
  | cons x l ih =>
    rw [List.flatMap_cons]
    cases i with
    | zero =>
      simp at ha
      subst ha
      rw [List.getElem?_append_left (by rw [hf]; omega)]
      simp
    | succ i =>
      simp at ha
      rw [List.getElem?_append_right (by rw [hf, Nat.add_mul]; omega), hf, ← ih i ha]
      congr 1
      rw [Nat.add_mul]; omega
theorem flat_set {α : Type} (f : α → List Value) (k : Nat) (hf : ∀ a, (f a).length = k) (l : List α) (i j : Nat) (a a' : α) (v : Value) (ha : l[i]? = some a) (hj : j < k)
    (he : f a' = (f a).set j v) : (l.flatMap f).set (i * k + j) v = (l.set i a').flatMap f := by
  induction l generalizing i with
  | nil => simp at ha
  | cons x l ih =>
    rw [List.flatMap_cons]
    cases i with
    | zero =>
      simp at ha
      subst ha
      rw [List.set_append_left _ _ (by rw [hf]; omega)]
      simp [he]
    | succ i =>
      simp at ha
      rw [List.set_append_right _ _ (by rw [hf, Nat.add_mul]; omega), hf, List.set_cons_succ, List.flatMap_cons, ← ih i ha]
      congr 2
      rw [Nat.add_mul]; omega
end Go.Proofs.Ytaodgbeobdholaa.Mem
