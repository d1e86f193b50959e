/-
  append of one element (a literal row of its cells) to a row that the call owns (no program is named).
-/
import Derived.Test.YtaodgbeobdholaaMem3
namespace Go.Proofs.Ytaodgbeobdholaa.Mem
open Go Go.RowKit

theorem wpList_append_one {P : Program} {w : World} {ops : Array Oper} {rest : List Oper} {o : Oper} {a : Act} {Q : Exit → Act → World → Prop} {s x : Operand} {t : TypeId}
    {e : TypeId} {i : TypeInfo} {z : Value} {size bytes : Nat} (ht : P.underlying t = some (.slice e)) (hi : P.info? e = some i) (hz : i.zero = some z)
    (hsize : i.size = size) (hby : i.bytes = bytes) (hzs : z.cells.size = size) {base : Nat} {v : Value} {n : Nat} {xs : List Value} (hown : w.ownsRow base e size v n xs) (us : List Value)
    (hgd : o.guard = none) (ho : o.op = .call { callee := .builtin .append, args := #[s, x], argTypes := #[t, t] }) (hs : a.eval s = v) (hx : a.eval x = .slice (some ⟨w.heap.size, 0, none⟩) 1 1)
    (hl : us.length = size) (h1 : us.all (·.oneCell') = true) (hsz : 0 < size) (hn : n ≤ 1000000) (hb : bytes ≤ 1000) (hbase : base ≤ w.heap.size)
    (h : ∀ v' w', w'.ownsRow base e size v' (n + 1) (xs ++ us) → (w.alloc (.cells us.toArray e)).grownBy w' v.ownBlock → wpList P ops Q rest (a.put o.dst v') w') : wpList P ops Q (o :: rest) a (w.alloc (.cells us.toArray e)) := by
  have hmul : (n + 1) * bytes ≤ 1000001 * 1000 := Nat.mul_le_mul (by omega) hb
  refine wpList_append_own _ hgd s x t ho base e i z size bytes ht hi hz hsize hby hzs hsz v n xs hs (hown.alloc _) ⟨w.heap.size, 0, none⟩ 1 1 us hx (by omega) ?_ (by simpa using h1) (by unfold maxLen; omega) (by omega) (by simp; omega) ?_
  · intro j u hj
    have := (Blk.new w us e).cell hj
    by_cases hj0 : j = 0
    · subst hj0; simpa [Addr.add] using this
    · simp only [Addr.add, if_neg hj0]; simpa using this
  · intro v' w' h2 h3 _
    exact h v' w' h2 h3
theorem owned_below {B base : Nat} {w0 w w' : World} {e size : Nat} {v : Value} {n : Nat} {xs : List Value} {o : Obj} (hown : w.ownsRow base e size v n xs) (hb : Below B w0 w) (hB : B ≤ base) (hBw : B ≤ w.heap.size) (hg : (w.alloc o).grownBy w' v.ownBlock) : Below B w0 w' :=
  (hb.alloc hBw o).grown hg (by simp; omega) (fun j hj => Nat.le_trans hB (hown.lt j hj).1)
end Go.Proofs.Ytaodgbeobdholaa.Mem
