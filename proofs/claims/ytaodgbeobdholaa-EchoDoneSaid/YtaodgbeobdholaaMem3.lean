/-
  append of a whole row that the call owns (or of nil) to a row that it owns.
-/
import Derived.Test.YtaodgbeobdholaaMem2
import Derived.Laws.AppendOwnNone
namespace Go.Proofs.Ytaodgbeobdholaa.Mem
open Go Go.RowKit

theorem wpList_append_row {P : Program} {w : World} {ops : Array Oper} {rest : List Oper} {o : Oper} {a : Act} {Q : Exit → Act → World → Prop} (hgd : o.guard = none) (s x : Operand) (t : TypeId)
    (ho : o.op = .call { callee := .builtin .append, args := #[s, x], argTypes := #[t, t] })
    (base : Nat) (e : TypeId) (i : TypeInfo) (z : Value) (size bytes : Nat) (ht : P.underlying t = some (.slice e)) (hi : P.info? e = some i) (hz : i.zero = some z)
    (hsize : i.size = size) (hby : i.bytes = bytes) (hzs : z.cells.size = size) (hsz : 0 < size)
    (v : Value) (n : Nat) (xs : List Value) (hs : a.eval s = v) (hown : w.ownsRow base e size v n xs)
    (base' : Nat) (sv : Value) (m : Nat) (news : List Value) (hx : a.eval x = sv) (hsrc : w.ownsRow base' e size sv m news) (h1 : ∀ u ∈ news, u.oneCell' = true)
    (h63 : n + m ≤ maxLen) (hbytes : (n + m) * bytes ≤ 140737488355328) (hbase : base ≤ w.heap.size)
    (h : ∀ v' w', w'.ownsRow base e size v' (n + m) (xs ++ news) → w.grownBy w' v.ownBlock → wpList P ops Q rest (a.put o.dst v') w') : wpList P ops Q (o :: rest) a w := by
  rcases hsrc.2 with ⟨hv, hm⟩ | ⟨g, cap, cur, hv, _, hg, _⟩
  · have hnews : news = [] := List.eq_nil_of_length_eq_zero (by rw [hsrc.1, hm, Nat.zero_mul])
    refine wpList_append_own_none hgd s x t ho base e i size ht hi v n xs hs hown (by rw [hx, hv]) ?_
    refine h v w ?_ (World.grownBy.refl _ _)
    rw [hm, hnews, Nat.add_zero, List.append_nil]
    exact hown
  · refine wpList_append_own w hgd s x t ho base e i z size bytes ht hi hz hsize hby hzs hsz v n xs hs hown ⟨g, 0, none⟩ m cap news (by rw [hx, hv]) hsrc.1 (hsrc.cells (by rw [hv]; rfl)) h1 h63 hbytes hbase ?_
    intro v' w' h2 h3 _
    exact h v' w' h2 h3

/-- a literal without elements -/
theorem empty_row (w : World) {B : Nat} (hB : B ≤ w.heap.size) (e size : Nat) : (w.alloc (.cells #[] e)).ownsRow B e size (.slice (some ⟨w.heap.size, 0, none⟩) 0 0) 0 [] :=
  ⟨by simp, .inr ⟨w.heap.size, 0, #[], rfl, hB, heap_alloc_new w _, Nat.le_refl _, by unfold maxLen; omega, by simp, by simp⟩⟩
end Go.Proofs.Ytaodgbeobdholaa.Mem
