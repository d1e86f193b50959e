/-
  Maps that the call makes, from int to a kind of integers, as functions (no program is named).
-/
import Derived.Test.YtaodgbeobdholaaMem2
import Derived.Maps.OwnOps
import Derived.Maps.Views
namespace Go.Proofs.Ytaodgbeobdholaa.Mem
open Go Go.RowKit Go.Maps

def upd (f : Int → Int) (k v : Int) : Int → Int := fun x => if x = k then v else f x
/-- block b is a map of at most n entries; at each key that an int may be it holds f -/
def IMap (P : Program) (q : IntKind) (e : TypeId) (w : World) (b n : Nat) (f : Int → Int) : Prop :=
  ∃ D : DataW Unit, w.ownsMap P 3 (plainElem P e) b n D ∧ (∃ es, D = .map es) ∧ ∀ k, (Lit.int .i64 k).wf = true → D.atKey (.int .i64 k) (.lit (.int q 0)) = .lit (.int q (f k))

section
variable {P : Program} {q : IntKind} {e t : TypeId} {w : World} {b n : Nat} {f : Int → Int}
theorem IMap.made (P : Program) (q : IntKind) (e : TypeId) (w : World) : IMap P q e (w.alloc (.map #[] 0)) w.heap.size 0 (fun _ => 0) :=
  ⟨.map [], World.ownsMap_made _ _ _ _, ⟨[], rfl⟩, fun _ _ => rfl⟩
theorem IMap.lt (h : IMap P q e w b n f) : b < w.heap.size := by obtain ⟨D, h, _⟩ := h; exact h.lt
theorem IMap.alloc (h : IMap P q e w b n f) (o : Obj) : IMap P q e (w.alloc o) b n f := by obtain ⟨D, h1, h2⟩ := h; exact ⟨D, h1.alloc o, h2⟩
theorem IMap.more (h : IMap P q e w b n f) {n' : Nat} (hn : n ≤ n' := by omega) : IMap P q e w b n' f := by obtain ⟨D, h1, h2⟩ := h; exact ⟨D, h1.mono hn, h2⟩
theorem IMap.drew (h : IMap P q e w b n f) : IMap P q e w.drew b n f := h
theorem IMap.drewN (h : IMap P q e w b n f) (m : Nat) : IMap P q e (w.drewN m) b n f := h
theorem IMap.kept {w' : World} {row : Option Nat} (h : IMap P q e w b n f) (hg : w.grownBy w' row) (hne : some b ≠ row) : IMap P q e w' b n f := by
  obtain ⟨D, h1, h2⟩ := h; exact ⟨D, h1.kept hg hne, h2⟩
theorem IMap.block {w' : World} (h : IMap P q e w b n f) (he : w'.heap[b]? = w.heap[b]?) : IMap P q e w' b n f := by
  obtain ⟨D, ⟨es, c, h0, h1⟩, h2⟩ := h
  exact ⟨D, ⟨es, c, he.trans h0, h1⟩, h2⟩
theorem IMap.below {w' : World} {B : Nat} (h : IMap P q e w b n f) (hb : Below B w w') (hlt : b < B) : IMap P q e w' b n f := h.block (hb.block b hlt)
theorem IMap.set_ne (h : IMap P q e w b n f) (a : Addr) (v : Value) (hne : b ≠ a.block) : IMap P q e (w.setCell a v) b n f := h.block (Below.heap_setCell _ _ _ _ hne)
theorem IMap.lookup (h : IMap P q e w b n f) (h3 : P.underlying 3 = some (.int .i64)) (ht : P.underlying t = some (.map 3 e)) (he : P.underlying e = some (.int q)) (hz : (zeroValue e).run P w = .ok (.int q 0) w) {k : Int} (hk : (Lit.int .i64 k).wf = true) :
    (Instr.lookup t (.map (some b)) (.int .i64 k) false).run P w = .ok (.int q (f k)) w := by
  obtain ⟨D, h1, _, h2⟩ := h
  obtain ⟨c, hr, ha, _⟩ := h1.lookup_int (int_keyed h3) ht he hz (keyOf_int_mk h3 hk)
  rw [h2 k hk] at ha
  simp at ha
  rw [hr, ha]
theorem IMap.update (h : IMap P q e w b n f) (h3 : P.underlying 3 = some (.int .i64)) (ht : P.underlying t = some (.map 3 e)) (he : P.underlying e = some (.int q)) (hn : n < maxLen) {k v : Int} (hk : (Lit.int .i64 k).wf = true) (hv : (Lit.int q v).wf = true) :
    ∃ w', (Instr.mapUpdate t (.map (some b)) (.int .i64 k) (.int q v)).run P w = .ok () w' ∧ IMap P q e w' b (n + 1) (upd f k v) ∧ w.grownBy w' (some b) := by
  obtain ⟨D, h1, hD, h2⟩ := h
  obtain ⟨w', hr, h3', h4⟩ := h1.update (int_keyed h3) ht hn (keyOf_int_mk h3 hk) (plainElem_int he hv)
  refine ⟨w', hr, ⟨_, h3', ?_, fun x hx => ?_⟩, h4⟩
  · obtain ⟨es, rfl⟩ := hD; exact ⟨_, rfl⟩
  · unfold upd
    by_cases e : x = k
    · subst e
      rw [if_pos rfl, atKey_put_same hD (by first | exact trivial | simp [WideAt.IsKeyLit] | constructor)]
    · rw [if_neg e, atKey_put_other (by intro h; exact e (by simpa using h)), h2 x hx]
end
end Go.Proofs.Ytaodgbeobdholaa.Mem
