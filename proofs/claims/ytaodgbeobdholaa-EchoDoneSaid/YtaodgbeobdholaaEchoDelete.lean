/-
  The walk through slices.Delete of one pair.
-/
import Derived.Test.YtaodgbeobdholaaEchoRepeat
import Derived.Lib.SliceRun
namespace Go.Proofs.Ytaodgbeobdholaa.Ec
open Go Go.RowKit Mem

theorem splice_set (l : List Value) (o : Nat) (v : Value) (r : List Value) (h : o < l.length) : splice (l.set o v) (o + 1) r = splice l o (v :: r) := by
  unfold splice
  rw [List.set_eq_take_append_cons_drop, if_pos h]
  have h1 : (l.take o).length = o := by simp; omega
  rw [List.take_append, List.drop_append, h1, List.take_of_length_le (by omega), show o + 1 - o = 0 + 1 by omega, List.take_succ_cons, List.take_zero, List.drop_eq_nil_of_le (by omega), show o + 1 + r.length - o = r.length + 1 by omega, List.drop_succ_cons, List.drop_drop]
  simp [Nat.add_comm, Nat.add_left_comm]
theorem blk_setCells {b : Nat} {T : TypeId} : ∀ (vs : List Value) (o : Nat) (w : World) (l : List Value), Blk w b l T → o + vs.length ≤ l.length → Blk (w.setCells b o vs) b (splice l o vs) T
  | [], o, w, l, h, _ => by simpa [splice, World.setCells] using h
  | v :: r, o, w, l, h, hl => by
    rw [World.setCells, ← splice_set l o v r (by simp at hl; omega)]
    exact blk_setCells r (o + 1) _ _ (h.set o v) (by simp at hl ⊢; omega)
theorem belowX_setCells {b B : Nat} {X : List Nat} {w0 : World} : ∀ (vs : List Value) (o : Nat) (w : World), BelowX B X w0 w → (B ≤ b ∨ b ∈ X) → BelowX B X w0 (w.setCells b o vs)
  | [], o, w, h, _ => h
  | v :: r, o, w, h, hb => belowX_setCells r (o + 1) _ (h.setCell hb v) hb

theorem run_clear_two (w : World) (ty : TypeId) (b o c : Nat) (hc : ∀ j, j < 2 → (w.cell? ⟨b, o + j, none⟩).isSome = true) (hf : ∀ j, j < 2 → w.frozen? ⟨b, o + j, none⟩ = false) :
    (Builtin.clear_ #[30] ty #[.slice (some ⟨b, o, none⟩) 1 c]).run Try.prog w = .ok (.tuple #[]) (w.setCells b o [.int .i64 0, .int .i64 0]) := by
  have hv : ∀ w, (zeroValue 38).run Try.prog w = .ok (.agg #[.int .i64 0, .int .i64 0]) w := fun w => by kernel_rfl
  have hzc : (Builtin.zeroCells (Value.agg #[.int .i64 0, .int .i64 0]).cells 1).toList = [.int .i64 0, .int .i64 0] := by kernel_rfl
  have hst := run_storeCells_cells (P := Try.prog) b o [.int .i64 0, .int .i64 0] 0 w (by simpa using hc) (by simpa using hf) (by intro v hv'; simp at hv'; subst hv'; rfl)
  simp only [Nat.add_zero] at hst
  simp [Builtin.clear_, run_underlying Try.underlying30, hv, hzc, hst]

theorem lks_len (W : List (Nat × Nat)) : (lks W).length = W.length * 2 := flat_len lk 2 (fun _ => rfl) W
theorem lks_append (A B : List (Nat × Nat)) : lks (A ++ B) = lks A ++ lks B := by simp [lks]
theorem lks_drop : ∀ (W : List (Nat × Nat)) (k : Nat), lks (W.drop k) = (lks W).drop (k * 2)
  | W, 0 => by simp
  | [], k + 1 => by simp [lks]
  | l :: W, k + 1 => by
    have e : lks (l :: W) = lk l ++ lks W := rfl
    rw [List.drop_succ_cons, lks_drop W k, e, show (k + 1) * 2 = k * 2 + 1 + 1 by omega]
    rfl
theorem lks_take : ∀ (W : List (Nat × Nat)) (k : Nat), lks (W.take k) = (lks W).take (k * 2)
  | W, 0 => by simp [lks]
  | [], k + 1 => by simp [lks]
  | l :: W, k + 1 => by
    have e : lks (l :: W) = lk l ++ lks W := rfl
    have e2 : lks (l :: W.take k) = lk l ++ lks (W.take k) := rfl
    rw [List.take_succ_cons, e2, lks_take W k, e, show (k + 1) * 2 = k * 2 + 1 + 1 by omega]
    rfl
theorem lks_one (W : List (Nat × Nat)) : (lks W).all (·.oneCell') = true := by
  induction W with
  | nil => rfl
  | cons l W ih => have e : lks (l :: W) = lk l ++ lks W := rfl
                   rw [e, List.all_append, ih]; rfl
/-- what the row holds behind -/
theorem del_cells {C : List Value} {W : List (Nat × Nat)} {k cap : Nat} (hC : C.length = cap * 2) (hn : W.length ≤ cap) (hT : C.take (W.length * 2) = lks W) (hk : k < W.length) :
    (splice (splice C (k * 2) (lks (W.drop (k + 1)))) ((W.length - 1) * 2) [.int .i64 0, .int .i64 0]).take ((W.length - 1) * 2) = lks (W.eraseIdx k) ∧
    (splice (splice C (k * 2) (lks (W.drop (k + 1)))) ((W.length - 1) * 2) [.int .i64 0, .int .i64 0]).length = cap * 2 := by
  have hl := lks_len (W.drop (k + 1))
  rw [List.length_drop] at hl
  have h1 : (splice C (k * 2) (lks (W.drop (k + 1)))).length = C.length := length_splice _ _ _ (by omega)
  refine ⟨?_, by rw [length_splice _ _ _ (by rw [h1]; simp; omega), h1, hC]⟩
  rw [splice, List.take_append_of_le_length (by rw [List.length_take, h1]; omega), List.take_take, Nat.min_self, splice, ← List.append_assoc, List.take_append_of_le_length (by simp; omega), List.take_of_length_le (by simp; omega)]
  rw [List.eraseIdx_eq_take_drop_succ, lks_append, lks_take, ← hT, List.take_take, Nat.min_eq_left (by omega)]

set_option maxRecDepth 100000 in
set_option maxHeartbeats 2000000 in
theorem delete_any (w : World) (g cap k q base : Nat) (C : List Value) (W : List (Nat × Nat)) (hq : q = k + 1) (hb : Blk w g C 38) (hC : C.length = cap * 2) (hn : W.length ≤ cap) (hT : C.take (W.length * 2) = lks W) (hk : k < W.length) (hm : cap ≤ maxLen) (hbg : base ≤ g) :
    Calls Try.prog 30 #[.slice (some ⟨g, 0, none⟩) W.length cap, .int .i64 k, .int .i64 q] w fun e w' => e = .returned (.slice (some ⟨g, 0, none⟩) (W.length - 1) cap) ∧
      w'.ownsRow base 38 2 (.slice (some ⟨g, 0, none⟩) (W.length - 1) cap) (W.eraseIdx k).length (lks (W.eraseIdx k)) ∧ BelowX w.heap.size [g] w w' := by
  obtain ⟨i0, hi0, hz0, hz1, hz2⟩ := info_parts info38
  have HB := Lib.hid hb
  have HT := Lib.hid hT
  have HCL := Lib.hid hC
  have HQ := Lib.hid hq
  generalize hWn : W.length = n at *
  have HWN := Lib.hid hWn
  have hm2 : (cap : Int) ≤ 9223372036854775807 := by unfold maxLen at hm; omega
  have hlen : Hid ((lks (W.drop q)).length = (n - q) * 2) := Lib.hid (by rw [lks_len, List.length_drop, HWN.out])
  have hone : Hid (∀ u ∈ lks (W.drop q), u.oneCell' = true) := Lib.hid (by simpa using lks_one (W.drop q))
  have hspare : Hid (∀ t, t < (lks (W.drop q)).length → (w.drew.cell? ⟨g, 0 + k * 2 + t, none⟩).isSome = true ∧ w.drew.frozen? ⟨g, 0 + k * 2 + t, none⟩ = false) := Lib.hid (fun t ht => by
    rw [hlen.out] at ht
    refine ⟨?_, HB.out.drew.frozen _⟩
    rw [HB.out.drew.cell (List.getElem?_eq_getElem (show 0 + k * 2 + t < C.length by rw [HCL.out]; omega))]
    rfl)
  obtain ⟨W1, hW1⟩ : ∃ W1, W1 = w.drew.setCells g (0 + k * 2) (lks (W.drop q)) := ⟨_, rfl⟩
  have HW1 := Lib.hid hW1
  have hB1 : Hid (Blk W1 g (splice C (k * 2) (lks (W.drop q))) 38) := Lib.hid (by
    rw [HW1.out, Nat.zero_add]
    exact blk_setCells _ _ _ _ HB.out.drew (by rw [hlen.out, HCL.out]; omega))
  have hX1 : Hid (BelowX w.heap.size [g] w W1) := Lib.hid (by
    rw [HW1.out]
    exact belowX_setCells _ _ _ (BelowX.refl _ _ _).drew (.inr (by simp)))
  have hl1 : Hid ((splice C (k * 2) (lks (W.drop q))).length = cap * 2) := Lib.hid (by rw [length_splice _ _ _ (by rw [hlen.out, HCL.out]; omega), HCL.out])
  have hcl : ∀ ty, (Builtin.clear_ #[30] ty #[.slice (some ⟨g, (n - 1) * 2, none⟩) 1 (cap - (n - 1))]).run Try.prog W1 = .ok (.tuple #[]) (W1.setCells g ((n - 1) * 2) [.int .i64 0, .int .i64 0]) := fun ty =>
    run_clear_two W1 ty g ((n - 1) * 2) _ (fun j hj => by
      rw [hB1.out.cell (List.getElem?_eq_getElem (show (n - 1) * 2 + j < _ by rw [hl1.out]; omega))]
      rfl) (fun j _ => hB1.out.frozen _)
  clear hW1 hb hT hC hWn
  have hkn : k ≤ cap := by omega
  have hk1 : q ≤ cap := by omega
  have hk2 : ¬ cap = k := by omega
  have hk3 : ¬ cap = n - 1 := by omega
  have hkk : ((k : Int) == (q : Int)) = false := by simp; omega
  have j1 : (k : Int) ≤ (q : Int) := by omega
  have j2 : (0 : Int) ≤ (q : Int) := by omega
  have j3 : (q : Int) ≤ (n : Int) := by omega
  have j4 : (k : Int) ≤ (cap : Int) := by omega
  have hkq : k < q := by omega
  have hq1 : 1 ≤ q := by omega
  have hqn : q ≤ n := by omega
  clear hq
  by_cases hck : cap = q
  · subst hck
    obtain rfl : n = cap := by omega
    have hsrc : Hid (∀ j u, (lks (W.drop n))[j]? = some u → w.drew.cell? ((⟨g, 0, none⟩ : Addr).add j) = some u) := Lib.hid (fun j u hj => by
      have := (List.getElem?_eq_some_iff.1 hj).1
      rw [hlen.out] at this
      omega)
    go_enter Try.func30, Try.ntmps30
    go_wp2_with fail
    go_region_law (refine step_append_room rfl (.tmp 22) (.tmp 25) 30 rfl 38 i0 2 Try.underlying30 hi0 hz1 g 0 k n (by simp [Act.eval, Act.put]) ⟨g, 0, none⟩ 0 0 (lks (W.drop n)) (by simp [Act.eval, Act.put]) (by rw [hlen.out]; omega) hsrc.out hone.out (by omega) hspare.out ?_; rw [← HW1.out])
    simp only [List.getElem_toArray, List.getElem_cons_succ, List.getElem_cons_zero, Act.put, List.setIfInBounds_toArray, List.set_cons_zero, List.set_cons_succ]
    have hnk : n - 1 = k := by have := HQ.out; omega
    have hn1 : n - k = 1 := by have := HQ.out; omega
    simp only [hnk, hn1] at hcl
    clear hnk
    go_wp2
    go_ret
    have hHQ := HQ.out
    obtain ⟨t1, t2⟩ := del_cells HCL.out (show W.length ≤ n by rw [HWN.out]; omega) (show C.take (W.length * 2) = lks W by rw [HWN.out]; exact HT.out) (show k < W.length by rw [HWN.out]; omega)
    have hBf := blk_setCells [.int .i64 0, .int .i64 0] ((k) * 2) _ _ hB1.out (by rw [hl1.out]; simp; omega)
    rw [HWN.out, ← hHQ] at t1 t2
    have hnk : n - 1 = k := by omega
    rw [hnk] at t1 t2 ⊢
    have hel : (W.eraseIdx k).length = k := by rw [List.length_eraseIdx, HWN.out, if_pos (by omega)]; first | done | omega
    refine ⟨rfl, ?_, belowX_setCells _ _ _ hX1.out (.inr (by simp))⟩
    rw [hel]
    exact ⟨by rw [lks_len, hel], .inr ⟨g, n, _, rfl, hbg, hBf, by omega, hm, by simpa using t2, by simpa using t1⟩⟩
  · have hsrc : Hid (∀ j u, (lks (W.drop q))[j]? = some u → w.drew.cell? ((⟨g, q * 2, none⟩ : Addr).add j) = some u) := Lib.hid (fun j u hj => by
      have hjl := (List.getElem?_eq_some_iff.1 hj).1
      rw [lks_drop, ← HT.out, List.getElem?_drop, List.getElem?_take] at hj
      split at hj
      · rw [WideShapes.add_plain]
        exact HB.out.drew.cell hj
      · cases hj)
    go_enter Try.func30, Try.ntmps30
    go_wp2_with fail
    go_region_law (refine step_append_room rfl (.tmp 22) (.tmp 25) 30 rfl 38 i0 2 Try.underlying30 hi0 hz1 g 0 k cap (by simp [Act.eval, Act.put]) ⟨g, q * 2, none⟩ (n - q) (cap - q) (lks (W.drop q)) (by simp [Act.eval, Act.put]) hlen.out hsrc.out hone.out (by omega) hspare.out ?_; rw [← HW1.out])
    simp only [List.getElem_toArray, List.getElem_cons_succ, List.getElem_cons_zero, Act.put, List.setIfInBounds_toArray, List.set_cons_zero, List.set_cons_succ]
    have hkn1 : k + (n - q) = n - 1 := by have := HQ.out; omega
    have hn1 : n - (n - 1) = 1 := by omega
    simp only [hkn1]
    go_wp2
    go_ret
    have hHQ := HQ.out
    obtain ⟨t1, t2⟩ := del_cells HCL.out (show W.length ≤ cap by rw [HWN.out]; omega) (show C.take (W.length * 2) = lks W by rw [HWN.out]; exact HT.out) (show k < W.length by rw [HWN.out]; omega)
    have hBf := blk_setCells [.int .i64 0, .int .i64 0] (((n - 1)) * 2) _ _ hB1.out (by rw [hl1.out]; simp; omega)
    rw [HWN.out, ← hHQ] at t1 t2
    have hel : (W.eraseIdx k).length = (n - 1) := by rw [List.length_eraseIdx, HWN.out, if_pos (by omega)]; first | done | omega
    refine ⟨rfl, ?_, belowX_setCells _ _ _ hX1.out (.inr (by simp))⟩
    rw [hel]
    exact ⟨by rw [lks_len, hel], .inr ⟨g, cap, _, rfl, hbg, hBf, by omega, hm, by simpa using t2, by simpa using t1⟩⟩
end Go.Proofs.Ytaodgbeobdholaa.Ec
