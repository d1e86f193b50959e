/-
  The wave, when all rows are made; what the invariant bounds.
-/
import Derived.Test.YtaodgbeobdholaaEchoSort
namespace Go.Proofs.Ytaodgbeobdholaa.Ec
open Go Go.RowKit Mem

def start0 (P : Nat → List Nat) : ES := ⟨[], fun i => ((P i).length : Int), fun _ => -1, 0⟩
theorem wave_of_rows {n p nb wb fb B : Nat} {P : Nat → List Nat} {V : Nat → Value} {W : World} (h : Rows1 n nb B P V W) (hp : Blk W p [sl nb n, .slice none 0 0, sl wb n, sl fb n, .int .i64 0] 59)
    (hw : Blk W wb (rowOf n (intsF fun i => ((P i).length : Int))) 3) (hf : Blk W fb (rowOf n (intsF fun _ => -1)) 3) (l1 : p < B) (l2 : wb < B) (l3 : fb < B) : Wave W p nb wb fb n W.heap.size P (start0 P) := by
  refine ⟨⟨⟨_, hp, World.ownsRow_nil _ _ _ _⟩, Nat.le_refl _, hp.lt⟩, hw, hf, ?_⟩
  let Vf : Nat → Option Addr × Nat := fun i => match V i with | .slice oa _ c => (oa, c) | _ => (none, 0)
  have hV : ∀ i, i < n → V i = .slice (Vf i).1 (P i).length (Vf i).2 := fun i hi => by
    obtain ⟨oa, cap, e, _⟩ := ownsRow_slice (h.own i hi)
    show V i = .slice (match V i with | .slice oa _ c => (oa, c) | _ => (none, 0)).1 _ (match V i with | .slice oa _ c => (oa, c) | _ => (none, 0)).2
    rw [e]
  refine ⟨Vf, ?_, fun i hi hne => ?_⟩
  · rw [← rowOf_congr hV]; exact h.row
  · have hl : 0 < (P i).length := List.length_pos_iff.2 hne
    rcases (h.own i hi).2 with ⟨_, h0⟩ | ⟨g, cap, cur, e, hbg, hrest⟩
    · omega
    · have hob : (V i).ownBlock = some g := by rw [e]; rfl
      refine ⟨g, cur.toList, ?_, ((h.own i hi).lt g hob).2, by simp; omega, ?_, fun k j hj => ?_⟩
      · show (match V i with | .slice oa _ c => (oa, c) | _ => (none, 0)).1 = _
        rw [e]
      · unfold Blk; simpa using hrest.1
      · have h9 := hrest.2.2.2.2
        have hk : k < (P i).length := (List.getElem?_eq_some_iff.1 hj).1
        have h8 : (cur.toList.take ((P i).length * 1))[k]? = (nats (P i))[k]? := by rw [h9]
        rw [List.getElem?_take, if_pos (by omega)] at h8
        rw [h8]
        simp [nats, hj]

theorem ownsRow_blk {w w' : World} {base : Nat} {e : TypeId} {size : Nat} {v : Value} {n : Nat} {xs : List Value} (h : w.ownsRow base e size v n xs) (hk : ∀ b l, Blk w b l e → Blk w' b l e) : w'.ownsRow base e size v n xs := by
  refine ownsRow_of_block h fun g hg => ?_
  rcases h.2 with ⟨e1, _⟩ | ⟨g', cap, cur, e1, _, hg', _⟩
  · rw [e1] at hg; cases hg
  · rw [e1] at hg
    have : g' = g := by simpa [Value.ownBlock] using hg
    subst this
    have h9 : Blk w g' cur.toList e := by unfold Blk; simpa using hg'
    exact (hk _ _ h9).trans h9.symm
theorem lks_get {W : List (Nat × Nat)} {q f t : Nat} (h : W[q]? = some (f, t)) : (lks W)[q * 2]? = some (.int .i64 (f : Nat)) ∧ (lks W)[q * 2 + 1]? = some (.int .i64 (t : Nat)) :=
  ⟨flat_get lk 2 (fun _ => rfl) W q 0 _ h (by omega), flat_get lk 2 (fun _ => rfl) W q 1 _ h (by omega)⟩
theorem info24 : (Try.prog.info? 24).map (fun i => (i.zero, i.size, i.bytes)) = some (some (.int .i64 0), 1, 8) := by kernel_rfl
/-- one message is taken off the way -/
theorem Wave.off {wr w5 : World} {p nb wb fb n base g q cap : Nat} {P : Nat → List Nat} {s : ES} {o : Obj} (h : Wave wr p nb wb fb n base P s) (hp : Places p nb wb fb base) (hg : base ≤ g)
    (hown : w5.ownsRow base 38 2 (.slice (some ⟨g, 0, none⟩) (s.way.length - 1) cap) (s.way.eraseIdx q).length (lks (s.way.eraseIdx q))) (hx : BelowX (wr.alloc o).heap.size [g] (wr.alloc o) w5) (hq : q < s.way.length) :
    Wave (w5.setCell ⟨p, 1, none⟩ (.slice (some ⟨g, 0, none⟩) (s.way.length - 1) cap)) p nb wb fb n base P { s with way := s.way.eraseIdx q } := by
  obtain ⟨⟨⟨v, h1, h2⟩, h3, h4⟩, h5, h6, h7⟩ := h
  have d1 := hp.d1
  have d2 := hp.d2
  have d3 := hp.d3
  have l1 := hp.lp
  have l2 := hp.lnb
  have l3 := hp.lwb
  have l4 := hp.lfb
  have hsz := hx.size
  simp at hsz
  have far : ∀ {b : Nat} {l : List Value} {T : TypeId}, b < base → Blk wr b l T → Blk w5 b l T := fun {b l T} hb hk => (hk.alloc o).belowX hx (by simp; omega) (by simp; omega)
  refine ⟨⟨⟨_, (far l1 h1).set 1 _, ?_⟩, by simp [World.setCell]; omega, h4⟩, (far l3 h5).set_ne _ _ d2, (far l4 h6).set_ne _ _ d3, ?_⟩
  · have h8 := ownsRow_set_ne hown ⟨p, 1, none⟩ (.slice (some ⟨g, 0, none⟩) (s.way.length - 1) cap) (by simp [Value.ownBlock]; omega)
    exact h8
  · have hb : BelowX base [p, wb, fb] wr w5 := ((BelowX.refl _ _ wr).alloc h3 o).trans (hx.mono (by simp; omega) (by simp; omega))
    exact h7.later (hb.setCell (.inr (by simp)) _) l2 (by simp; exact ⟨d1, hp.d4, hp.d5⟩)
/-- one row of neighbours -/
def OneAt (W : World) (va : Option Addr) (base : Nat) (X : List Nat) (l : List Nat) : Prop :=
  l ≠ [] → ∃ (b : Nat) (lb : List Value), va = some ⟨b, 0, none⟩ ∧ b < base ∧ b ∉ X ∧ Blk W b lb 3 ∧ ∀ k j : Nat, l[k]? = some j → lb[k]? = some (.int .i64 ((j : Nat) : Int))
theorem OneAt.later {W W' : World} {va : Option Addr} {base : Nat} {X : List Nat} {l : List Nat} (h : OneAt W va base X l) (k : BelowX base X W W') : OneAt W' va base X l := fun hne => by
  obtain ⟨b, lb, h1, h2, h3, h4, h5⟩ := h hne
  exact ⟨b, lb, h1, h2, h3, h4.belowX k h2 h3, h5⟩
/-- what bounds a state -/
theorem Inv.bound {n start : Nat} {near : Nat → List Nat} {M : List (Nat × Nat)} {s : ES} {J : List Nat} {R : List (Nat × Nat)} (G : Good n M) (hs : start < n) (h : Inv near (Adj M) start s J R) : s.sent ≤ 2 * M.length ∧ s.way.length ≤ 2 * M.length := by
  have h1 : s.sent ≤ 2 * M.length := by
    rw [h.sent, ← pairs_len]
    exact len_le h.nodup fun m hm => by
      obtain ⟨i, j⟩ := m
      exact mem_pairs.2 ((h.mem i j).1 hm).1
  refine ⟨h1, ?_⟩
  have := h.sent
  simp at this
  omega
theorem Inv.frm_bound {n start : Nat} {near : Nat → List Nat} {M : List (Nat × Nat)} {s : ES} {J : List Nat} {R : List (Nat × Nat)} (G : Good n M) (hs : start < n) (h : Inv near (Adj M) start s J R) (t : Nat) : -2 ≤ s.frm t ∧ s.frm t ≤ n := by
  by_cases hJ : t ∈ J
  · by_cases e : t = start
    · rw [e, h.root]; omega
    · obtain ⟨p, hp, hf, _⟩ := h.tree.parent hJ e
      have := tree_lt G hs h.tree p hp
      omega
  · have : s.frm t = -1 := Classical.byContradiction fun hn => hJ ((h.heard t).2 hn)
    omega
theorem Inv.way_lt {n start : Nat} {near : Nat → List Nat} {M : List (Nat × Nat)} {s : ES} {J : List Nat} {R : List (Nat × Nat)} (G : Good n M) (h : Inv near (Adj M) start s J R) {f t : Nat} (hm : (f, t) ∈ s.way) : f < n ∧ t < n := by
  have := ((h.mem f t).1 (List.mem_append_left _ hm)).1
  rcases this with ha | ha
  · exact ⟨(G.lt _ ha).1, (G.lt _ ha).2.1⟩
  · exact ⟨(G.lt _ ha).2.1, (G.lt _ ha).1⟩
end Go.Proofs.Ytaodgbeobdholaa.Ec
