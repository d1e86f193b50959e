/-
  The rows of neighbours: one more appended (no code is walked).
-/
import Derived.Test.YtaodgbeobdholaaEchoDelete
import Derived.Deep.AppendLies
namespace Go.Proofs.Ytaodgbeobdholaa.Ec
open Go Go.RowKit Mem

def nats (l : List Nat) : List Value := l.map fun j => .int .i64 ((j : Nat) : Int)
def upL (N : Nat → List Nat) (a : Nat) (l : List Nat) : Nat → List Nat := fun i => if i = a then l else N i
/-- the rows of neighbours, while they are made -/
structure Rows1 (n nb B : Nat) (N : Nat → List Nat) (V : Nat → Value) (W : World) : Prop where
  row : Blk W nb (rowOf n V) 23
  own : ∀ i, i < n → W.ownsRow B 3 1 (V i) (N i).length (nats (N i))
  far : ∀ i j, i < n → j < n → i ≠ j → (V i).ownBlock = none ∨ (V i).ownBlock ≠ (V j).ownBlock
theorem Rows1.step {n nb B a b g cap H : Nat} {N : Nat → List Nat} {V : Nat → Value} {w2 W W0 wn : World} (h : Rows1 n nb B N V W) (hk : BelowX B [nb] w2 W) (hnb : nb < B) (hB : B ≤ W.heap.size) (ha : a < n)
    (hW0 : ∀ k, k < W.heap.size → W0.heap[k]? = W.heap[k]?) (hk0 : BelowX B [nb] w2 W0) (hB0 : W.heap.size ≤ W0.heap.size) (hH : W.heap.size ≤ H)
    (hown : wn.ownsRow B 3 1 (.slice (some ⟨g, 0, none⟩) ((N a).length + 1) cap) ((N a).length + 1) (nats (N a) ++ [.int .i64 ((b : Nat) : Int)])) (hgr : W0.grownBy wn (V a).ownBlock) (hat : (V a).ownBlock = some g ∨ g = H) :
    Rows1 n nb B (upL N a (N a ++ [b])) (fun i => if i = a then .slice (some ⟨g, 0, none⟩) ((N a).length + 1) cap else V i) (wn.setCell ⟨nb, a, none⟩ (.slice (some ⟨g, 0, none⟩) ((N a).length + 1) cap)) ∧ BelowX B [nb] w2 (wn.setCell ⟨nb, a, none⟩ (.slice (some ⟨g, 0, none⟩) ((N a).length + 1) cap)) := by
  have h0 : ∀ i, i < n → W0.ownsRow B 3 1 (V i) (N i).length (nats (N i)) := fun i hi => ownsRow_of_block (h.own i hi) fun q hq => hW0 q ((h.own i hi).lt q hq).2
  have hb0 : Blk W0 nb (rowOf n V) 23 := h.row.of_block (hW0 nb h.row.lt)
  have hb1 : Blk wn nb (rowOf n V) 23 := hb0.grown hgr (ownsRow_ne (h0 a ha) hb0 (by decide))
  have hlo : ∀ q, (V a).ownBlock = some q → B ≤ q := fun q hq => ((h.own a ha).lt q hq).1
  refine ⟨⟨?_, fun i hi => ?_, fun i j hi hj hij => ?_⟩, ?_⟩
  · have := hb1.set a (.slice (some ⟨g, 0, none⟩) ((N a).length + 1) cap)
    rw [rowOf_set] at this
    exact this
  · by_cases e : i = a
    · subst e
      rw [if_pos rfl]
      have e1 : upL N i (N i ++ [b]) i = N i ++ [b] := if_pos rfl
      rw [e1, List.length_append]
      have e2 : nats (N i ++ [b]) = nats (N i) ++ [.int .i64 ((b : Nat) : Int)] := by simp [nats]
      rw [e2]
      refine ownsRow_set_ne hown _ _ fun e3 => ?_
      have := (hown.lt _ e3).1
      simp at this
      omega
    · rw [if_neg e]
      have e1 : upL N a (N a ++ [b]) i = N i := if_neg e
      rw [e1]
      refine ownsRow_set_ne ((h0 i hi).kept hgr (h.far i a hi ha e)) _ _ fun e3 => ?_
      have := ((h.own i hi).lt _ e3).1
      simp at this
      omega
  · by_cases e : i = a
    · subst e
      rw [if_pos rfl, if_neg (Ne.symm hij)]
      right
      intro e4
      have e5 : (V j).ownBlock = some g := by rw [← e4]; rfl
      rcases hat with hat | hat
      · rcases h.far i j hi hj hij with h1 | h1
        · rw [h1] at hat; cases hat
        · exact h1 (hat.trans e5.symm)
      · have := ((h.own j hj).lt g e5).2
        omega
    · rw [if_neg e]
      by_cases e6 : j = a
      · subst e6
        rw [if_pos rfl]
        cases hv : (V i).ownBlock with
        | none => exact .inl rfl
        | some q =>
          right
          intro e4
          have e5 : q = g := by simpa [Value.ownBlock] using e4
          subst e5
          rcases hat with hat | hat
          · rcases h.far i j hi hj e with h1 | h1
            · rw [h1] at hv; cases hv
            · exact h1 (hv.trans hat.symm)
          · have := ((h.own i hi).lt q hv).2
            omega
      · rw [if_neg e6]
        exact h.far i j hi hj hij
  · exact (hk0.grown hgr (by omega) (fun q hq => .inl (hlo q hq))).setCell (.inr (by simp)) _
theorem Rows1.set_ne {n nb B b o : Nat} {N : Nat → List Nat} {V : Nat → Value} {W : World} {v : Value} (h : Rows1 n nb B N V W) (hb : b < B) (hne : nb ≠ b) : Rows1 n nb B N V (W.setCell ⟨b, o, none⟩ v) :=
  ⟨h.row.set_ne _ _ hne, fun i hi => ownsRow_set_ne (h.own i hi) _ _ fun e => by have := ((h.own i hi).lt _ e).1; simp at this; omega, h.far⟩
theorem Rows1.alloc {n nb B : Nat} {N : Nat → List Nat} {V : Nat → Value} {W : World} (h : Rows1 n nb B N V W) (o : Obj) : Rows1 n nb B N V (W.alloc o) :=
  ⟨h.row.alloc o, fun i hi => (h.own i hi).alloc o, h.far⟩

/-- the links, as pairs of numbers -/
def castL (M : List (Nat × Nat)) : List (Int × Int) := M.map fun l => (((l.1 : Nat) : Int), ((l.2 : Nat) : Int))
end Go.Proofs.Ytaodgbeobdholaa.Ec
