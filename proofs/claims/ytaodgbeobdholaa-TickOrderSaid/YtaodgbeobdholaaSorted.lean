/-
  The sort of the indices by tick and process.
-/
import Derived.Test.YtaodgbeobdholaaClosure
import Derived.Test.YtaodgbeobdholaaSort
namespace Go.Proofs.Ytaodgbeobdholaa.Rn
open Go Go.RowKit Mem Go.Shelf Go.Lib Go.Sort

theorem sortWorld_block {α : Type} [Inhabited α] (enc : α → Value) (w : World) (blk off m : Nat) (dk : Array α) (os : Array Obj) {b : Nat} (hb : b < w.heap.size) (hne : b ≠ blk) : (sortWorld enc w blk off m dk os).heap[b]? = w.heap[b]? := by
  unfold sortWorld grow putRow mapBlock
  rw [Array.getElem?_append_left (by simpa using hb)]
  rw [Array.getElem?_modify, if_neg (Ne.symm hne)]
  rfl
theorem cell_of_block {w w' : World} {b o : Nat} (h : w'.heap[b]? = w.heap[b]?) : w'.cell? ⟨b, o, none⟩ = w.cell? ⟨b, o, none⟩ := by
  simp [World.cell?, h]

def cfN (M : Nat) (tk pk : Nat → Int) : Fin (M + 1) → Fin (M + 1) → Int := fun x y => orI (cmpI (tk x) (tk y)) (cmpI (pk x) (pk y))
theorem cfN_lt (M : Nat) (tk pk : Nat → Int) (x y : Fin (M + 1)) : ltOf (cfN M tk pk) x y = decide (tk x < tk y ∨ (tk x = tk y ∧ pk x < pk y)) := by
  unfold ltOf cfN
  rw [Bool.eq_iff_iff, decide_eq_true_iff, decide_eq_true_iff]
  unfold orI cmpI
  rcases Int.lt_trichotomy (tk x) (tk y) with h1 | h1 | h1
  · rw [if_pos h1]; simp [h1]
  · rw [if_neg (show ¬ tk x < tk y by omega), if_neg (show ¬ tk y < tk x by omega)]
    rw [if_pos rfl]
    rcases Int.lt_trichotomy (pk x) (pk y) with h2 | h2 | h2
    · rw [if_pos h2]; simp; omega
    · rw [if_neg (by omega), if_neg (by omega)]; omega
    · rw [if_neg (by omega), if_pos h2]; omega
  · rw [if_neg (show ¬ tk x < tk y by omega), if_pos h1]
    simp; omega
theorem cfN_swo (M : Nat) (tk pk : Nat → Int) : SWO (ltOf (cfN M tk pk)) where
  irrefl x := by rw [cfN_lt]; simp
  trans x y z h1 h2 := by rw [cfN_lt] at *; simp at *; omega
  ntrans x y z h1 h2 := by rw [cfN_lt] at *; simp at *; omega
def encN (M : Nat) : Fin (M + 1) → Value := fun x => .int .i64 ((x : Nat) : Int)
theorem cmp_lays {M cap tb lb T eb off blk off' size : Nat} {tk pk : Nat → Int} {w : World} (htb : tb ≠ blk) (hlb : lb ≠ blk) (hT : T ≠ blk) (heb : eb ≠ blk)
    (c0 : w.cell? ⟨tb, 0, none⟩ = some (.slice (some ⟨T, 0, none⟩) (M + 1) (M + 1))) (c1 : w.cell? ⟨lb, 0, none⟩ = some (.slice (some ⟨eb, off, none⟩) (M + 1) cap))
    (a : ∀ i, i < M + 1 → w.cell? ⟨T, i, none⟩ = some (.int .i64 (tk i))) (e : ∀ i, i < M + 1 → w.cell? ⟨eb, off + i * 3, none⟩ = some (.int .i64 (pk i))) :
    CmpLays1 Try.prog 21 #[.pointer (some ⟨tb, 0, none⟩), .pointer (some ⟨lb, 0, none⟩)] (encN M) (cfN M tk pk) blk off' size w := by
  intro m os dk _ x y
  have hb : ∀ b o, b ≠ blk → ∀ v, w.cell? ⟨b, o, none⟩ = some v → (sortWorld (encN M) w blk off' m dk os).cell? ⟨b, o, none⟩ = some v := fun b o hne v hv =>
    (cell_of_block (sortWorld_block (encN M) w blk off' m dk os (World.block_lt_of_cell? w _ hv) hne)).trans hv
  refine (closure_any x y (M + 1) cap tb lb T eb off (tk x) (tk y) (pk x) (pk y) _ x.isLt y.isLt (hb _ _ htb _ c0) (hb _ _ hlb _ c1) (hb _ _ hT _ (a x x.isLt)) (hb _ _ hT _ (a y y.isLt)) (hb _ _ heb _ (e x x.isLt)) (hb _ _ heb _ (e y y.isLt))).mono ?_
  rintro e' w' ⟨rfl, rfl⟩
  exact ⟨rfl, 1, #[.cells #[.int .i64 (cmpI (tk x) (tk y)), .int .i64 (cmpI (pk x) (pk y))] 3], by rw [alloc_eq_grow]; rfl⟩
theorem enters21 : ∀ args w, (callFunc 21 args).run Try.prog w = .ok (.enter 21 args) w := enters_of Try.func21 (by kernel_rfl) rfl
theorem sort_any {M cap tb lb T eb off blk oc : Nat} {tk pk : Nat → Int} {w : World} (hM : M ≤ 30) (htb : tb ≠ blk) (hlb : lb ≠ blk) (hT : T ≠ blk) (heb : eb ≠ blk)
    (c0 : w.cell? ⟨tb, 0, none⟩ = some (.slice (some ⟨T, 0, none⟩) (M + 1) (M + 1))) (c1 : w.cell? ⟨lb, 0, none⟩ = some (.slice (some ⟨eb, off, none⟩) (M + 1) cap))
    (a : ∀ i, i < M + 1 → w.cell? ⟨T, i, none⟩ = some (.int .i64 (tk i))) (e : ∀ i, i < M + 1 → w.cell? ⟨eb, off + i * 3, none⟩ = some (.int .i64 (pk i)))
    (d : Array (Fin (M + 1))) (hd : d.size = M + 1) (hH : Holds (encN M) w blk 0 d) (hblk : blk < w.heap.size) :
    Calls Try.prog 20 #[.slice (some ⟨blk, 0, none⟩) (M + 1) oc, .func (.func 21) #[] #[.pointer (some ⟨tb, 0, none⟩), .pointer (some ⟨lb, 0, none⟩)]] w fun e w' =>
      e = .returned (.tuple #[]) ∧ ∃ d' n os, PermIn 0 d.size d d' ∧ SortedIn (ltOf (cfN M tk pk)) 0 d.size d' ∧ w' = sortWorld (encN M) w blk 0 n d' os := by
  have h := Any.slices_SortFunc Try.sortF (encN M) (fun _ => rfl) (cfN M tk pk) (cfN_swo M tk pk) 21 #[.pointer (some ⟨tb, 0, none⟩), .pointer (some ⟨lb, 0, none⟩)] blk 0 oc d w enters21 (cmp_lays htb hlb hT heb c0 c1 a e) hH hblk (by omega)
  rw [hd] at h ⊢
  exact h
end Go.Proofs.Ytaodgbeobdholaa.Rn
