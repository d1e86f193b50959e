/-
  A row of neighbours, sorted.
-/
import Derived.Test.YtaodgbeobdholaaEchoNear
import Derived.Shelf.Slices.In.SortNone
import Derived.Lib.OwnBridge
namespace Go.Proofs.Ytaodgbeobdholaa.Ec
open Go Go.RowKit Mem Go.Sort Go.Lib

theorem sorted_block (w : World) (g n : Nat) (d : Array Int) (os : Array Obj) {b : Nat} (hb : b < w.heap.size) (hne : b ≠ g) : (grow (putRow (Value.int .i64) (Sort.ahead w n) g 0 d) os).heap[b]? = w.heap[b]? := by
  unfold grow putRow mapBlock
  rw [Array.getElem?_append_left (by simpa using hb), Array.getElem?_modify, if_neg (Ne.symm hne)]
  rfl
theorem nats_ints (l : List Nat) : nats l = (l.map fun (j : Nat) => ((j : Nat) : Int)).map (Value.int .i64) := by simp [nats]
theorem perm_nat {l : List Nat} {s : List Int} (h : s.Perm (l.map fun (j : Nat) => ((j : Nat) : Int))) : ∃ q : List Nat, q.Perm l ∧ q.map (fun (j : Nat) => ((j : Nat) : Int)) = s := by
  refine ⟨s.map Int.toNat, ?_, ?_⟩
  · have := h.map Int.toNat
    rw [List.map_map] at this
    have e : (Int.toNat ∘ fun (j : Nat) => ((j : Nat) : Int)) = id := by funext j; simp
    rw [e, List.map_id] at this
    exact this
  · have : ∀ x ∈ s, 0 ≤ x := fun x hx => by
      obtain ⟨j, _, e⟩ := List.mem_map.1 (h.mem_iff.1 hx)
      omega
    rw [List.map_map]
    conv => rhs; rw [← List.map_id s]
    exact List.map_congr_left fun x hx => by have := this x hx; simp; omega
theorem sort_near {n nb B i : Nat} {P : Nat → List Nat} {V : Nat → Value} {W : World} (h : Rows1 n nb B P V W) (hi : i < n) (hnb : nb < B) (hB : B ≤ W.heap.size) (hl : (P i).length ≤ 100) :
    Calls Try.prog 28 #[V i] W fun e w' => e = .returned (.tuple #[]) ∧ ∃ q, q.Perm (P i) ∧ Rows1 n nb B (upL P i q) V w' ∧ Below B W w' := by
  have hown := h.own i hi
  by_cases h0 : (P i).length = 0
  · obtain ⟨oa, cap, hV, _⟩ := ownsRow_slice hown
    rw [hV, h0]
    refine (Any.slices_Sort_int_none (P := Try.prog) Try.lays189 oa cap W).mono ?_
    rintro e w' ⟨rfl, rfl⟩
    refine ⟨rfl, P i, List.Perm.refl _, ?_, Below.refl _ _⟩
    have : upL P i (P i) = P := by funext j; unfold upL; split <;> simp_all
    rw [this]; exact h
  · have hnn : V i ≠ .slice none 0 0 := by
      intro e
      rcases hown.2 with ⟨_, h1⟩ | ⟨g, c, cur, h1, _⟩
      · exact h0 h1
      · rw [e] at h1; cases h1
    rw [nats_ints] at hown
    obtain ⟨g, cap, hV, hbg, hgl, _, _, hlen, hH⟩ := holds_of_ownsRow hown hnn
    have hVi : V i = .slice (some ⟨g, 0, none⟩) ((P i).map fun (j : Nat) => ((j : Nat) : Int)).length cap := by rw [hV]; simp
    rw [hVi]
    refine (Any.slices_Sort_int (P := Try.prog) Try.lays189 g 0 cap _ W hH hgl (by simp; omega)).mono ?_
    rintro e w' ⟨rfl, m, os, rfl⟩
    have hperm : (((P i).map fun (j : Nat) => ((j : Nat) : Int)).mergeSort fun x y => decide (x ≤ y)).Perm ((P i).map fun (j : Nat) => ((j : Nat) : Int)) := List.mergeSort_perm _ _
    obtain ⟨q, hq, hqs⟩ := perm_nat hperm
    rw [← hqs]
    have hql : q.length = (P i).length := hq.length_eq
    have hsz : (putRow (Value.int .i64) (Sort.ahead W m) g 0 (q.map fun (j : Nat) => ((j : Nat) : Int)).toArray).heap.size = W.heap.size := by simp [putRow, mapBlock, Sort.ahead]
    refine ⟨rfl, q, hq, ⟨?_, fun j hj => ?_, h.far⟩, ?_⟩
    · exact h.row.of_block (sorted_block W g m _ os h.row.lt (by omega))
    · by_cases e : j = i
      · subst e
        have e1 : upL P j q j = q := if_pos rfl
        rw [e1, nats_ints, hql]
        rw [hV] at hown
        have h1 := ownsRow_putRow (q := m) (k := (P j).length) (ys := q.map fun (j : Nat) => ((j : Nat) : Int)) hown (by simpa using hql) (Nat.le_refl _)
        rw [List.take_of_length_le (by simp; omega)] at h1
        rw [hV]
        refine ownsRow_of_block h1 fun b hb => ?_
        have hb2 := (h1.lt b hb).2
        exact heap_grow_old _ _ (by omega)
      · have e1 : upL P i q j = P j := if_neg e
        rw [e1]
        refine ownsRow_of_block (h.own j hj) fun b hb => sorted_block W g m _ os ((h.own j hj).lt b hb).2 fun e2 => ?_
        rcases h.far j i hj hi e with h1 | h1
        · rw [h1] at hb; cases hb
        · exact h1 (by rw [hb, hV, e2]; rfl)
    · refine ⟨rfl, rfl, rfl, ?_, fun b hb => sorted_block W g m _ os (by omega) (by omega)⟩
      show W.heap.size ≤ (grow _ os).heap.size
      simp [putRow, mapBlock, Sort.ahead]
end Go.Proofs.Ytaodgbeobdholaa.Ec
