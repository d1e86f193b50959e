/-
  The walk through slices.Repeat at one int.
-/
import Derived.Test.YtaodgbeobdholaaEchoWrong
import Derived.Test.YtaodgbeobdholaaLib1
import Derived.Laws.CopyOwn
import Derived.Deep.RegionLaw
namespace Go.Proofs.Ytaodgbeobdholaa.Ec
open Go Go.RowKit Mem

def ltV (x : Int) (k : Nat) : Nat → Value := fun i => .int .i64 (if i < k then x else 0)
theorem splice_ltV (x : Int) (n k m : Nat) (h : k + m ≤ n) : splice (rowOf n (ltV x k)) k (List.replicate m (.int .i64 x)) = rowOf n (ltV x (k + m)) := by
  unfold splice
  apply List.ext_getElem?
  intro i
  by_cases hi : i < n
  · rw [rowOf_get hi]
    by_cases h1 : i < k
    · rw [List.getElem?_append_left (by simp [rowOf]; omega), List.getElem?_take, if_pos h1, rowOf_get hi]
      unfold ltV; rw [if_pos h1, if_pos (by omega)]
    · by_cases h2 : i < k + m
      · rw [List.getElem?_append_right (by simp [rowOf]; omega), List.getElem?_append_left (by simp [rowOf]; omega)]
        simp [rowOf, List.getElem?_replicate]
        unfold ltV
        rw [if_pos h2]
        simp; omega
      · rw [List.getElem?_append_right (by simp [rowOf]; omega), List.getElem?_append_right (by simp [rowOf]; omega), List.getElem?_drop]
        have e : k + (List.replicate m (Value.int .i64 x)).length + (i - (List.take k (rowOf n (ltV x k))).length - (List.replicate m (Value.int .i64 x)).length) = i := by simp [rowOf]; omega
        rw [e, rowOf_get hi]
        unfold ltV; rw [if_neg h1, if_neg h2]
  · rw [List.getElem?_eq_none (by simp [rowOf]; omega), List.getElem?_eq_none (by simp [rowOf]; omega)]

theorem info3 : (Try.prog.info? 3).map (fun i => (i.zero, i.size, i.bytes)) = some (some (.int .i64 0), 1, 8) := by kernel_rfl
set_option maxRecDepth 100000 in
set_option maxHeartbeats 2000000 in
theorem repeat_any (b n : Nat) (x : Int) (w : World) (h1 : 1 ≤ n) (h6 : n ≤ 6) (hc : w.cell? ⟨b, 0, none⟩ = some (.int .i64 x)) :
    Calls Try.prog 27 #[.slice (some ⟨b, 0, none⟩) 1 1, .int .i64 n] w fun e w' => ∃ g, e = .returned (.slice (some ⟨g, 0, none⟩) n n) ∧ Blk w' g (rowOf n fun _ => .int .i64 x) 3 ∧ w.heap.size ≤ g ∧ Below w.heap.size w w' := by
  have hmk : (Instr.makeSlice 23 (.int .i64 n) (.int .i64 n)).run Try.prog w = .ok (.slice (some ⟨w.heap.size, 0, none⟩) n n) (w.alloc (.cells (rowOf n (fun _ => .int .i64 0)).toArray 3)) := by
    obtain ⟨i0, hi0, hz0, hz1, hz2⟩ := info_parts info3
    have h := run_make (P := Try.prog) w 23 3 i0 _ Try.underlying23 hi0 hz0 .i64 .i64 (n : Int) (n : Int) (by omega) (Int.le_refl _) (by rw [hz2]; omega) (by omega)
    simpa [hz1, Value.cells, made_row, rowOf_replicate] using h
  have hbl := World.block_lt_of_cell? w _ hc
  have HC0 := Lib.hid hc
  have hmul : ∀ W, Calls Try.prog 42 #[.int .u64 1, .int .u64 n] W fun e w' => e = .returned (.tuple #[.int .u64 0, .int .u64 n]) ∧ w' = W := fun W => by
    have h := Any.bits_Mul (P := Try.prog) Try.lays212 1 n (by omega) (by omega) W
    have e1 : 1 * n / 18446744073709551616 = 0 := by omega
    have e2 : 1 * n % 18446744073709551616 = n := by omega
    rw [e1, e2] at h
    exact h
  go_enter Try.func27, Try.ntmps27
  go_wp2_with fail
  refine (hmul _).mono ?_
  rintro e w1 ⟨rfl, rfl⟩
  clear hmul
  have hrow : rowOf n (fun _ => Value.int .i64 0) = rowOf n (ltV x 0) := rowOf_congr fun i _ => by unfold ltV; simp
  rw [hrow] at hmk
  have hB0 := Blk.new w1 (rowOf n (ltV x 0)) 3
  have HB0 := Lib.hid hB0
  have hc2 := ((Below.refl _ w1).alloc (Nat.le_refl _) (.cells (rowOf n (ltV x 0)).toArray 3)).cell (p := ⟨b, 0, none⟩) hbl
  rw [hc] at hc2
  have HC2 := Lib.hid hc2
  clear hrow hB0 hc2
  have hsz3 : (Try.prog.info? 3).map (·.size) = some 1 := by kernel_rfl
  have hln : (rowOf n (ltV x 0)).length = n := rowOf_len _ _
  have HLN := Lib.hid hln
  clear hln
  go_wp2_with (refine wpList_copy_splice rfl _ _ 23 23 rfl 3 Try.underlying23 hsz3 (some ⟨w1.heap.size, 0, none⟩) (some ⟨b, 0, none⟩) n n 1 1 rfl rfl w1.heap.size 0 (rowOf n (ltV x 0)) 3 HB0.out (List.replicate 1 (.int .i64 x)) ?q1 ?q2 ?q3 ?q4 w1.heap.size w1 ((Below.refl _ _).alloc (Nat.le_refl _) _) (Nat.le_refl _) ?q5)
  case q1 => simp [Nat.min_def]; omega
  case q2 =>
    intro j v hj
    cases j with
    | zero => simp at hj; subst hj; exact HC0.out
    | succ j => simp at hj
  case q3 => simp [HLN.out]; omega
  case q4 => intro v hv; rw [List.eq_of_mem_replicate hv]; rfl
  intro w2 hg hb
  have HB2 := Lib.hid hb
  have HG : Hid (Blk w2 w1.heap.size (rowOf n (ltV x 1)) 3) := Lib.hid (by
    have := hg.out
    rw [show [Value.int .i64 x] = List.replicate 1 (.int .i64 x) from rfl, splice_ltV x n 0 1 (by omega)] at this
    exact this)
  clear hg hb HB0 HC2 HLN hmk hc
  go_wp2
  go_loopw [8] (fun i wr => ∃ k : Nat, 1 ≤ k ∧ k ≤ n ∧ i = .int .i64 k ∧ Blk wr w1.heap.size (rowOf n (ltV x k)) 3 ∧ Below w1.heap.size w1 wr) (fun i _ => n - (intOf i).toNat)
  case atStart => exact ⟨1, Nat.le_refl _, h1, rfl, HG.out, HB2.out⟩
  case round =>
    clear HG HB2
    obtain ⟨k, hk1, hkn, rfl, hg, hb⟩ := hrel
    have HG := Lib.hid hg
    have HB := Lib.hid hb
    clear hg hb
    by_cases hlt : k < n
    · have hml : min k (n - k) ≤ k ∧ min k (n - k) ≤ n - k ∧ 1 ≤ min k (n - k) := ⟨Nat.min_le_left _ _, Nat.min_le_right _ _, by omega⟩
      generalize hmm : min k (n - k) = m at hml
      have HMM := Lib.hid hmm
      clear hmm
      have hnk : ¬ n = k := by omega
      have hQ1 : Hid ((List.replicate m (Value.int .i64 x)).length = Nat.min k (n - k)) := Lib.hid (by rw [List.length_replicate]; exact HMM.out.symm)
      have hQ2 : Hid (∀ j v, (List.replicate m (Value.int .i64 x))[j]? = some v → wr.drew.cell? ((⟨w1.heap.size, 0, none⟩ : Addr).add j) = some v) := Lib.hid (fun j v hj => by
        have hjm := (List.getElem?_eq_some_iff.1 hj).1
        rw [List.length_replicate] at hjm
        rw [List.eq_of_mem_replicate (List.mem_of_getElem? hj), WideShapes.add_plain, Nat.zero_add]
        refine (HG.out.drew.cell (rowOf_get (g := ltV x k) (show j < n by omega))).trans ?_
        unfold ltV
        rw [if_pos (by omega)])
      have hQ3 : Hid (k + (List.replicate m (Value.int .i64 x)).length ≤ (rowOf n (ltV x k)).length) := Lib.hid (by rw [List.length_replicate, rowOf_len]; omega)
      have hQ4 : Hid (∀ v ∈ List.replicate m (Value.int .i64 x), v.oneCell' = true) := Lib.hid (fun v hv => by rw [List.eq_of_mem_replicate hv]; rfl)
      have hQ5 : Hid (wr.drew.heap[w1.heap.size]? = some (.cells (rowOf n (ltV x k)).toArray 3 (0, 0))) := Lib.hid HG.out.drew
      have hQ6 : Hid (Below w1.heap.size w1 wr.drew) := Lib.hid HB.out.drew
      go_wp2
      go_region_law (refine step_copy_splice rfl (.tmp 41) (.tmp 44) 23 23 rfl 3 Try.underlying23 hsz3 (some ⟨w1.heap.size, k, none⟩) (some ⟨w1.heap.size, 0, none⟩) (n - k) (n - k) k n (by simp [Act.eval, Act.put]) (by simp [Act.eval, Act.put]) w1.heap.size k (rowOf n (ltV x k)) 3 hQ5.out (List.replicate m (.int .i64 x)) hQ1.out (fun _ => ⟨rfl, _, rfl, hQ2.out⟩) hQ3.out hQ4.out w1.heap.size w1 hQ6.out (Nat.le_refl _) ?_; intro w3 hg3 hb3)
      have HB3 := Lib.hid hb3
      have HG3 : Hid (Blk w3 w1.heap.size (rowOf n (ltV x (k + m))) 3) := Lib.hid (by
        have := hg3.out
        rw [splice_ltV x n k m (by omega)] at this
        exact this)
      clear hg3 hb3 hQ1 hQ2 hQ3 hQ4 hQ5 hQ6
      have hwr : IntKind.i64.wrap ((k : Int) + (m : Int)) = ((k + m : Nat) : Int) := by rw [IntWalk.i64_in _ (by omega)]; omega
      simp only [List.getElem_toArray, List.getElem_cons_succ, List.getElem_cons_zero, Act.put, List.setIfInBounds_toArray, List.set_cons_zero, List.set_cons_succ, List.length_replicate]
      go_wp2
      go_roundw
      case rel => exact ⟨k + m, by omega, by omega, by first | go_num | (simp), HG3.out, HB3.out⟩
      case measure => simp [intOf]; omega
    · obtain rfl : k = n := by omega
      go_wp2
      go_ret
      refine ⟨w1.heap.size, by first | rfl | trivial, ?_, Nat.le_refl _, HB.out⟩
      have := HG.out
      rw [rowOf_congr (g' := fun _ => Value.int .i64 x) (fun i hi => by unfold ltV; rw [if_pos hi])] at this
      exact this
end Go.Proofs.Ytaodgbeobdholaa.Ec
