/-
  The walk through copies' Play.
-/
import Derived.Test.YtbibibpliahclaaDoAll
import Derived.Test.YtbibibpliahclaaCore
import Derived.Test.YtbibibpliahclaaPhase
namespace Go.Proofs.Ytbibibpliahclaa.Cp
open Go Go.RowKit Mem

/-- a slice value whose elements read as the moves -/
def MovesAt (w : World) (ao : Option Addr) (L : List Move) : Prop :=
  L ≠ [] → ∃ b off, ao = some ⟨b, off, none⟩ ∧ ∀ k mv, L[k]? = some mv → w.cell? ⟨b, off + k * 4, none⟩ = some (.int .i64 mv.kind) ∧ w.cell? ⟨b, off + k * 4 + 1, none⟩ = some (.int .i64 mv.frm) ∧
    w.cell? ⟨b, off + k * 4 + 2, none⟩ = some (.int .i64 mv.to) ∧ w.cell? ⟨b, off + k * 4 + 3, none⟩ = some (.int .i64 mv.val)

set_option maxRecDepth 100000 in
set_option maxHeartbeats 1000000 in
theorem play_bad (n : Int) (ao : Option Addr) (len cap : Nat) (w : World) (h : n < 1 ∨ 6 < n ∨ (60 : Int) < len) :
    Calls Try.prog 4 #[.int .i64 n, .slice ao len cap] w fun e w' => e = .returned (.tuple #[.agg #[NilS, NilS, NilS, NilS], .int .i64 1]) ∧ Below w.heap.size w w' := by
  have fin : ∀ X : World, Below w.heap.size w X → Below w.heap.size w X := fun _ h => h
  rcases h with h | h | h
  · go_enter Try.func4, Try.ntmps4
    go_wp2
    exact bodyPost_ret (v := .tuple #[.agg #[NilS, NilS, NilS, NilS], .int .i64 1]) (by simp [results, Try.results4, go_sem, NilS]) rfl ⟨rfl, (Below.refl _ _).alloc (Nat.le_refl _) _⟩
  · have h1 : ¬ n < 1 := by omega
    go_enter Try.func4, Try.ntmps4
    go_wp2
    exact bodyPost_ret (v := .tuple #[.agg #[NilS, NilS, NilS, NilS], .int .i64 1]) (by simp [results, Try.results4, go_sem, NilS]) rfl ⟨rfl, (Below.refl _ _).alloc (Nat.le_refl _) _⟩
  · by_cases h1 : n < 1
    · go_enter Try.func4, Try.ntmps4
      go_wp2
      exact bodyPost_ret (v := .tuple #[.agg #[NilS, NilS, NilS, NilS], .int .i64 1]) (by simp [results, Try.results4, go_sem, NilS]) rfl ⟨rfl, (Below.refl _ _).alloc (Nat.le_refl _) _⟩
    · by_cases h2 : 6 < n
      · go_enter Try.func4, Try.ntmps4
        go_wp2
        exact bodyPost_ret (v := .tuple #[.agg #[NilS, NilS, NilS, NilS], .int .i64 1]) (by simp [results, Try.results4, go_sem, NilS]) rfl ⟨rfl, (Below.refl _ _).alloc (Nat.le_refl _) _⟩
      · go_enter Try.func4, Try.ntmps4
        go_wp2
        exact bodyPost_ret (v := .tuple #[.agg #[NilS, NilS, NilS, NilS], .int .i64 1]) (by simp [results, Try.results4, go_sem, NilS]) rfl ⟨rfl, (Below.refl _ _).alloc (Nat.le_refl _) _⟩

theorem run_snoc (s : St) (l : List Move) (m : Move) (t : Int) :
    run s (l ++ [m]) t = ((step (run s l t).1 m (t + l.length)).1, (run s l t).2 ++ [(step (run s l t).1 m (t + l.length)).2]) := by
  induction l generalizing s t with
  | nil => simp [run]
  | cons a l ih =>
    simp only [List.cons_append, run, ih]
    have e : t + 1 + (l.length : Int) = t + ((a :: l).length : Int) := by simp; omega
    rw [e]

theorem run_fine {n m : Nat} {s : St} (l : List Move) (h : Fine n m s) (hn : n ≤ 6) (t : Int) : Fine n (m + l.length) (run s l t).1 := by
  induction l generalizing s m t with
  | nil => exact h
  | cons a l ih =>
    have := ih (h.ofStep hn a t) (t + 1)
    simp only [run]
    rw [show m + (a :: l).length = m + 1 + l.length by simp; omega]
    exact this
theorem run_codes (s : St) (l : List Move) (t : Int) : (run s l t).2.length = l.length := by
  induction l generalizing s t with
  | nil => rfl
  | cons a l ih => simp [run, ih]

/-- after k rounds -/
def Inv (B : Nat) (w : World) (n : Nat) (L : List Move) (k : Nat) (wr : World) : Prop :=
  ∃ cv ov, Rep B (B + 1 + 1) (B + 1) ov (run (init n) (L.take k) 0).1 wr ∧ Blk wr (B + 1 + 1 + 1) [cv, NilS, NilS, NilS] 27 ∧
    wr.ownsRow B 28 1 cv k ((run (init n) (L.take k) 0).2.map (Value.int .i64)) ∧ Blk wr B [NilS, NilS, NilS, NilS] 27 ∧ Below B w wr

theorem inv_step {B n k : Nat} {L : List Move} {mv : Move} {cv nv ov2 : Value} {w w3 wn : World} {O : Obj} {g cap : Nat} {cells : List Value} (hmv : L[k]? = some mv)
    (hr3 : Rep B (B + 1 + 1) (B + 1) ov2 (step (run (init n) (L.take k) 0).1 mv k).1 w3) (ho3 : Blk w3 (B + 1 + 1 + 1) [cv, NilS, NilS, NilS] 27) (hbr3 : Blk w3 B [NilS, NilS, NilS, NilS] 27) (hb3 : Below B w w3)
    (hc3 : w3.ownsRow B 28 1 cv k ((run (init n) (L.take k) 0).2.map (Value.int .i64))) (hgrow : (w3.alloc O).grownBy wn cv.ownBlock)
    (hcells : cells = (run (init n) (L.take k) 0).2.map (Value.int .i64) ++ [.int .i64 (step (run (init n) (L.take k) 0).1 mv k).2])
    (hown : wn.ownsRow B 28 1 nv (k + 1) cells) (hnv : nv = .slice (some ⟨g, 0, none⟩) (k + 1) cap) (hat : cv.ownBlock = some g ∨ g = w3.heap.size + 1) : Inv B w n L (k + 1) (wn.setCell ⟨B + 1 + 1 + 1, 0, none⟩ nv) := by
  have hlt : k < L.length := (List.getElem?_eq_some_iff.1 hmv).1
  have ht : L.take (k + 1) = L.take k ++ [mv] := by rw [List.take_add_one, hmv]; rfl
  have hlen : (L.take k).length = k := by rw [List.length_take]; omega
  have hrun := run_snoc (init n) (L.take k) mv 0
  rw [hlen, Int.zero_add] at hrun
  have a1 := ownsRow_ne hc3 ho3 (by decide)
  have a2 := ownsRow_ne hc3 hbr3 (by decide)
  have a3 := ownsRow_ne hc3 hr3.all (by decide)
  have a4 := ownsRow_ne hc3 hr3.kept (by decide)
  have a5 := ownsRow_ne2 hr3.ops hc3 (by decide)
  have hsz : B + 1 + 1 + 1 < w3.heap.size := ho3.lt
  have hrn := (hr3.alloc O).grow hgrow a3 a4 a5
  have hon := (ho3.alloc O).grown hgrow a1
  have hbn := (hbr3.alloc O).grown hgrow a2
  have hg : g ≠ B + 1 + 1 + 1 := by
    rcases hat with e | e
    · intro e'; rw [e'] at e; exact a1 e
    · omega
  have ho2 : ov2.ownBlock ≠ some (B + 1 + 1 + 1) := ownsRow_ne hr3.ops ho3 (by decide)
  unfold Inv
  rw [ht, hrun]
  refine ⟨nv, ov2, hrn.set_far _ _ _ (by omega) (by omega) ho2, hon.set 0 nv, ?_, hbn.set_ne _ _ (by simp; omega), ?_⟩
  · rw [hcells] at hown
    have := ownsRow_setCell_other hown (a := ⟨B + 1 + 1 + 1, 0, none⟩) (by rw [hnv]; simpa [Value.ownBlock] using hg) nv
    simpa using this
  · refine Below.setCell ?_ (by simp; omega) _
    refine Below.trans hb3 (Below.trans ((Below.refl B w3).alloc (by omega) O) ?_)
    exact (Below.refl B _).grown hgrow (by simp; omega) fun j hj => (hc3.lt j hj).1

theorem made_kept (n : Nat) (h1 : 1 ≤ n) (h6 : n ≤ 6) : madeCells #[.int .i64 0, .int .i64 0] (n * 2) = ((init n).l.flatMap KeptCells).toArray := by
  rcases (show n = 1 ∨ n = 2 ∨ n = 3 ∨ n = 4 ∨ n = 5 ∨ n = 6 by omega) with rfl | rfl | rfl | rfl | rfl | rfl <;> kernel_rfl
theorem AllL_init (bl n : Nat) : (AllL bl (init n) NilS).toArray = #[.slice (some ⟨bl, 0, none⟩) n n, .int .u32 0, .int .i64 0, .int .i64 0, .bool false, .int .i64 0, .int .u32 0, .int .i64 0, .int .i64 0, .int .i64 0, .int .i64 0, .int .i64 0, .bool false, .int .i64 0, .int .u32 0, .int .i64 0, .int .i64 0, .int .i64 0, .int .i64 0, .int .i64 0, .bool false, .int .i64 0, .int .u32 0, .int .i64 0, .int .i64 0, .int .i64 0, .int .i64 0, .int .i64 0, .bool false, .int .i64 0, .int .u32 0, .int .i64 0, .int .i64 0, .int .i64 0, .int .i64 0, .int .i64 0, .bool false, .int .i64 0, .int .u32 0, .int .i64 0, .int .i64 0, .int .i64 0, .int .i64 0, .int .i64 0, .bool false, .int .i64 0, .int .u32 0, .int .i64 0, .int .i64 0, .int .i64 0, NilS] := by
  simp [AllL, init, ClCells]
theorem info43 : (Try.prog.info? 43).map (fun i => (i.zero, i.size, i.bytes)) = some (some (.agg #[.int .i64 0, .int .i64 0]), 2, 16) := by kernel_rfl
theorem info3 : (Try.prog.info? 3).map (fun i => (i.zero, i.size, i.bytes)) = some (some (.int .i64 0), 1, 8) := by kernel_rfl
theorem info28 : (Try.prog.info? 28).map (fun i => (i.zero, i.size, i.bytes)) = some (some (.int .i64 0), 1, 8) := by kernel_rfl

theorem inv_start (w : World) (n : Nat) (L : List Move) (h1 : 1 ≤ n) (h6 : n ≤ 6) : Inv w.heap.size w n L 0 ((((w.alloc (.cells #[NilS, NilS, NilS, NilS] 27)).alloc (.cells (madeCells #[.int .i64 0, .int .i64 0] (n * 2)) 43)).alloc
    (.cells (AllL (w.heap.size + 1) (init n) NilS).toArray 48)).alloc (.cells #[NilS, NilS, NilS, NilS] 27)) := by
  rw [made_kept n h1 h6]
  have a1 := Blk.new w [NilS, NilS, NilS, NilS] 27
  have a2 := Blk.new (w.alloc (.cells #[NilS, NilS, NilS, NilS] 27)) ((init n).l.flatMap KeptCells) 43
  have a3 := Blk.new ((w.alloc (.cells #[NilS, NilS, NilS, NilS] 27)).alloc (.cells ((init n).l.flatMap KeptCells).toArray 43)) (AllL (w.heap.size + 1) (init n) NilS) 48
  have a4 := Blk.new (((w.alloc (.cells #[NilS, NilS, NilS, NilS] 27)).alloc (.cells ((init n).l.flatMap KeptCells).toArray 43)).alloc (.cells (AllL (w.heap.size + 1) (init n) NilS).toArray 48)) [NilS, NilS, NilS, NilS] 27
  simp only [World.size_alloc] at a2 a3 a4
  refine ⟨NilS, NilS, ⟨a3.alloc _, (a2.alloc _).alloc _, ?_, by omega, by omega, by simp [run, init]⟩, a4, ?_, ((a1.alloc _).alloc _).alloc _, ?_⟩
  · exact World.ownsRow_nil _ _ _ _
  · exact World.ownsRow_nil _ _ _ _
  · exact ((((Below.refl _ _).alloc (Nat.le_refl _) _).alloc (by simp) _).alloc (by simp; omega) _).alloc (by simp; omega) _

/-- what Play leaves -/
structure PlayRes (B n : Nat) (R : St × List Int) (cv ov sv vv : Value) (W : World) : Prop where
  codes : W.ownsRow B 28 1 cv R.2.length (R.2.map (Value.int .i64))
  ops : W.ownsRow B 35 5 ov R.1.ops.length (R.1.ops.flatMap OpCells)
  stamps : W.ownsRow B 3 1 sv n (R.1.l.map fun k => Value.int .i64 k.stamp)
  vals : W.ownsRow B 3 1 vv n (R.1.l.map fun k => Value.int .i64 k.val)

theorem fin_res {B n : Nat} {w W : World} {cv ov sv vv : Value} {s : St} {cs : List Int} {L : List Move} (_hc : cs.length = L.length) (hn : s.l.length = n) (h : Core B w cv ov s (cs.map (Value.int .i64)) sv vv W)
    (hS : W.ownsRow B 3 1 sv n ((s.l.take n).map fun k => Value.int .i64 k.stamp)) (hV : W.ownsRow B 3 1 vv n ((s.l.take n).map fun k => Value.int .i64 k.val)) (a b c d : Value) :
    PlayRes B n (s, cs) cv ov sv vv ((((W.setCell ⟨B, 0, none⟩ a).setCell ⟨B, 1, none⟩ b).setCell ⟨B, 2, none⟩ c).setCell ⟨B, 3, none⟩ d) ∧ Below B w ((((W.setCell ⟨B, 0, none⟩ a).setCell ⟨B, 1, none⟩ b).setCell ⟨B, 2, none⟩ c).setCell ⟨B, 3, none⟩ d) := by
  have n1 := ownsRow_ne h.codes h.res (by decide)
  have n2 := ownsRow_ne h.rep.ops h.res (by decide)
  have n3 := ownsRow_ne hS h.res (by decide)
  have n4 := ownsRow_ne hV h.res (by decide)
  have ht : s.l.take n = s.l := by rw [← hn]; exact List.take_length
  rw [ht] at hS hV
  have hcod : W.ownsRow B 28 1 cv cs.length (cs.map (Value.int .i64)) := by have := h.codes; simpa using this
  refine ⟨⟨?_, ?_, ?_, ?_⟩, ?_⟩
  · exact ownsRow_setCell_other (ownsRow_setCell_other (ownsRow_setCell_other (ownsRow_setCell_other hcod n1 a) n1 b) n1 c) n1 d
  · exact ownsRow_setCell_other (ownsRow_setCell_other (ownsRow_setCell_other (ownsRow_setCell_other h.rep.ops n2 a) n2 b) n2 c) n2 d
  · exact ownsRow_setCell_other (ownsRow_setCell_other (ownsRow_setCell_other (ownsRow_setCell_other hS n3 a) n3 b) n3 c) n3 d
  · exact ownsRow_setCell_other (ownsRow_setCell_other (ownsRow_setCell_other (ownsRow_setCell_other hV n4 a) n4 b) n4 c) n4 d
  · exact (((h.below.setCell (Nat.le_refl _) a).setCell (Nat.le_refl _) b).setCell (Nat.le_refl _) c).setCell (Nat.le_refl _) d

set_option maxRecDepth 100000 in
set_option maxHeartbeats 2000000 in
theorem play_good (n : Nat) (ao : Option Addr) (cap : Nat) (L : List Move) (w : World) (h1 : 1 ≤ n) (h6 : n ≤ 6) (hl : L.length ≤ 60) (hM : MovesAt w ao L) :
    Calls Try.prog 4 #[.int .i64 n, .slice ao L.length cap] w fun e w' => ∃ cv ov sv vv, e = .returned (.tuple #[.agg #[cv, ov, sv, vv], .int .i64 0]) ∧ PlayRes w.heap.size n (run (init n) L 0) cv ov sv vv w' ∧ Below w.heap.size w w' := by
  have hmk : ∀ u : World, (Instr.makeSlice 40 (.int .i64 n) (.int .i64 n)).run Try.prog u = .ok (.slice (some ⟨u.heap.size, 0, none⟩) n n) (u.alloc (.cells (madeCells #[.int .i64 0, .int .i64 0] (n * 2)) 43)) := fun u => by
    obtain ⟨i0, hi0, hz0, hz1, hz2⟩ := info_parts info43
    have h := run_make (P := Try.prog) u 40 43 i0 _ Try.underlying40 hi0 hz0 .i64 .i64 (n : Int) (n : Int) (by omega) (Int.le_refl _) (by rw [hz2]; omega) (by omega)
    simpa [hz1, Value.cells] using h
  have HM := Lib.hid hM
  clear hM
  go_enter Try.func4, Try.ntmps4
  go_wp2
  refine gen_world (P := Code.wp Try.prog _ _ _) (Q := Inv w.heap.size w n L 0) _ ?_ ?_
  · have hst := inv_start w n L h1 h6
    rw [AllL_init] at hst
    exact hst
  clear hmk
  intro w1 hI
  generalize hB : w.heap.size = B at hI ⊢
  have HB := Lib.hid hB
  clear hB
  go_loopw [30] (fun i wr => ∃ k : Nat, k ≤ L.length ∧ i = .int .i64 k ∧ Inv B w n L k wr) (fun i _ => L.length - (intOf i).toNat)
  case atStart => exact ⟨0, Nat.zero_le _, rfl, hI⟩
  case round =>
    clear hI
    obtain ⟨k, hk, rfl, cv, ov, hr, ho, hc, hbr, hb⟩ := hrel
    by_cases hlt : k < L.length
    · have hmv : ∃ mv, L[k]? = some mv := ⟨L[k], List.getElem?_eq_getElem hlt⟩
      obtain ⟨mv, hmv⟩ := hmv
      obtain ⟨b, off, hao, hcells⟩ := HM.out (by intro e; rw [e] at hlt; simp at hlt)
      obtain ⟨q0, q1, q2, q3⟩ := hcells k mv hmv
      have hbl := World.block_lt_of_cell? w _ q0
      have r0 := (hb.cell (p := ⟨b, off + k * 4, none⟩) (by rw [← HB.out]; exact hbl)).trans q0
      have r1 := (hb.cell (p := ⟨b, off + k * 4 + 1, none⟩) (by rw [← HB.out]; exact hbl)).trans q1
      have r2 := (hb.cell (p := ⟨b, off + k * 4 + 2, none⟩) (by rw [← HB.out]; exact hbl)).trans q2
      have r3 := (hb.cell (p := ⟨b, off + k * 4 + 3, none⟩) (by rw [← HB.out]; exact hbl)).trans q3
      clear q0 q1 q2 q3 hcells
      subst hao
      have HR := Lib.hid hr
      have HO := Lib.hid ho
      have HC := Lib.hid hc
      have HBR := Lib.hid hbr
      have HBB := Lib.hid hb
      have HMV := Lib.hid hmv
      clear hr ho hc hbr hb hmv
      go_wp2_with fail
      refine gen_world (P := Code.wp Try.prog _ _ _) (Q := fun W => Rep B (B + 1 + 1) (B + 1) ov (run (init n) (L.take k) 0).1 W ∧ Blk W (B + 1 + 1 + 1) [cv, NilS, NilS, NilS] 27 ∧
        W.ownsRow B 28 1 cv k ((run (init n) (L.take k) 0).2.map (Value.int .i64)) ∧ Blk W B [NilS, NilS, NilS, NilS] 27 ∧ Below B w W ∧
        Blk W wr.heap.size [.int .i64 mv.kind, .int .i64 mv.frm, .int .i64 mv.to, .int .i64 mv.val] 33 ∧ B + 1 + 1 + 1 < wr.heap.size ∧ (∀ j, cv.ownBlock = some j → j < wr.heap.size) ∧ (∀ j, ov.ownBlock = some j → j < wr.heap.size)) _ ?_ ?_
      · have hlo := HO.out.lt
        exact ⟨HR.out.alloc _, HO.out.alloc _, HC.out.alloc _, HBR.out.alloc _, HBB.out.alloc (by omega) _, Blk.new wr _ _, hlo, fun j hj => (HC.out.lt j hj).2, fun j hj => (HR.out.ops.lt j hj).2⟩
      clear r0 r1 r2 r3
      intro w2 ⟨hr, ho, hc, hbr, hb, hmb, hmo, hmc, hmv2⟩
      generalize wr.heap.size = mb at hmb hmo hmc hmv2 ⊢
      clear HR HO HC HBR HBB
      have x0 := hmb.cell (o := 0) rfl
      have x1 := hmb.cell (o := 1) rfl
      have x2 := hmb.cell (o := 2) rfl
      have x3 := hmb.cell (o := 3) rfl
      have z0 := ho.cell (o := 0) rfl
      have hs2 := hmb.lt
      have HR := Lib.hid hr
      have HO := Lib.hid ho
      have HC := Lib.hid hc
      have HBR := Lib.hid hbr
      have HBB := Lib.hid hb
      have HMB := Lib.hid hmb
      have HF : Hid (Fine n k (run (init n) (L.take k) 0).1) := Lib.hid (by have := run_fine (L.take k) (Fine.ofInit n) h6 0; rw [List.length_take, Nat.min_eq_left hk, Nat.zero_add] at this; exact this)
      clear hr ho hc hbr hb hmb
      obtain ⟨i0, hi0, hz0, hz1, hz2⟩ := info_parts info28
      refine wp_region_held_drew (S := (fun w' => w'.cell? ⟨mb, 0, none⟩ = some (.int .i64 mv.kind) ∧ w'.cell? ⟨mb, 1, none⟩ = some (.int .i64 mv.frm) ∧ w'.cell? ⟨mb, 2, none⟩ = some (.int .i64 mv.to) ∧ w'.cell? ⟨mb, 3, none⟩ = some (.int .i64 mv.val))) (by kernel_rfl) ?_ (fun hHeld => ?_)
      · first | exact ⟨x0, x1, x2, x3⟩ | go_keep | (go_split_ands; refine ⟨?_, ?_, ?_, ?_⟩ <;> (rw [hgrow.cell_far _ (by simp; omega) (Ne.symm hm4)]; assumption)) | (go_split_ands; refine ⟨?_, ?_, ?_, ?_⟩ <;> (rw [World.cell?_setCell_other _ _ _ _ (by simp <;> omega)]; assumption))
      refine wpAnyH_take (i := 0) (oi := { dst := some 35, op := Go.Op.fieldAddr 27 (Go.Operand.tmp 7) 0, type := 0, pos := "copies.go:108", after := #[], guard := none }) (v := ?_) rfl (by kernel_rfl) (by kernel_rfl) (by kernel_rfl) (fun _ _ _ h => h) (Or.inl ⟨by rfl, ?_⟩) (by assumption) ?_
      rotate_left 1
      · intro w hSw; (try dsimp only at hSw); go_simp; try with_reducible rfl
      (try simp only [Act.put, List.setIfInBounds_toArray, List.set_cons_zero, List.set_cons_succ])
      refine wpAnyH_take (i := 2) (oi := { dst := some 37, op := Go.Op.move (Go.Operand.tmp 6), type := 39, pos := "copies.go:108", after := #[], guard := none }) (v := ?_) rfl (by kernel_rfl) (by kernel_rfl) (by kernel_rfl) (fun _ _ _ h => h) (Or.inl ⟨by rfl, ?_⟩) (by assumption) ?_
      rotate_left 1
      · intro w hSw; (try dsimp only at hSw); go_simp; try with_reducible rfl
      (try simp only [Act.put, List.setIfInBounds_toArray, List.set_cons_zero, List.set_cons_succ])
      refine wpAnyH_take (i := 3) (oi := { dst := some 38, op := Go.Op.load 33 (Go.Operand.tmp 9), type := 33, pos := "copies.go:108", after := #[], guard := none }) (v := ?_) rfl (by kernel_rfl) (by kernel_rfl) (by kernel_rfl) (fun _ _ _ h => h) (Or.inl ⟨by rfl, ?_⟩) (by assumption) ?_
      rotate_left 1
      · intro w hSw; (try dsimp only at hSw); go_simp; try with_reducible rfl
      (try simp only [Act.put, List.setIfInBounds_toArray, List.set_cons_zero, List.set_cons_succ])
      refine wpAnyH_take (i := 4) (oi := { dst := some 39, op := Go.Op.move (Go.Operand.tmp 8), type := 3, pos := "copies.go:108", after := #[], guard := none }) (v := ?_) rfl (by kernel_rfl) (by kernel_rfl) (by kernel_rfl) (fun _ _ _ h => h) (Or.inl ⟨by rfl, ?_⟩) (by assumption) ?_
      rotate_left 1
      · intro w hSw; (try dsimp only at hSw); go_simp; try with_reducible rfl
      (try simp only [Act.put, List.setIfInBounds_toArray, List.set_cons_zero, List.set_cons_succ])
      refine wpAnyH_ready (rs := [1, 5]) (by kernel_rfl) (by simp) ?_
      refine AllReadyH.cons (o := { dst := some 36, op := Go.Op.load 23 (Go.Operand.tmp 35), type := 23, pos := "copies.go:108", after := #[{ on := 0, ground := Go.Ground.data }], guard := none }) rfl (fun K hK => ?_) ?_
      · go_simp
        refine hK.out _ _ ?_ (fun hHeld => ?_)
        · first | exact ⟨x0, x1, x2, x3⟩ | go_keep | (go_split_ands; refine ⟨?_, ?_, ?_, ?_⟩ <;> (rw [hgrow.cell_far _ (by simp; omega) (Ne.symm hm4)]; assumption)) | (go_split_ands; refine ⟨?_, ?_, ?_, ?_⟩ <;> (rw [World.cell?_setCell_other _ _ _ _ (by simp <;> omega)]; assumption))
        clear hK K
        (try simp only [Act.put, List.setIfInBounds_toArray, List.set_cons_zero, List.set_cons_succ])
        refine wpAnyH_ready (rs := [5]) (by kernel_rfl) (by simp) ?_
        refine AllReadyH.cons (o := { dst := some 40, op := Go.Op.call { callee := Go.Callee.value (Go.Operand.func 7), args := #[Go.Operand.tmp 37, Go.Operand.tmp 38, Go.Operand.tmp 39], argTypes := #[39, 33, 3] }, type := 28, pos := "copies.go:108", after := #[{ on := 2, ground := Go.Ground.data }, { on := 3, ground := Go.Ground.data }, { on := 4, ground := Go.Ground.data }], guard := none }) rfl (fun K hK => ?_) ?_
        · go_simp; refine (do_any mv k HR.out.drew HF.out h6 (by omega)).mono ?_; rintro e w3 ⟨rfl, ⟨ov2, hr2, hlat⟩, hfr⟩; have ho3 := HR.out.drew.blk_later hfr (b := B + 1 + 1 + 1) HO.out (by decide) (by decide) (by decide); have hmb3 := HR.out.drew.blk_later hfr (b := mb) HMB.out (by decide) (by decide) (by decide); have hbr3 := HR.out.drew.blk_later hfr (b := B) HBR.out (by decide) (by decide) (by decide); have hc3 := HR.out.drew.row_later hfr HC.out (by decide) (by decide) (by decide); have hb3 := HBB.out.drew.trans (HR.out.drew.below hfr (by simp; omega)); have x0 := hmb3.cell (o := 0) rfl; have x1 := hmb3.cell (o := 1) rfl; have x2 := hmb3.cell (o := 2) rfl; have x3 := hmb3.cell (o := 3) rfl; have z3 := ho3.cell (o := 0) rfl; have f3 := ho3.frozen 0; have hs3 := hmb3.lt; have hs4 := ho3.lt; have hm4 := ownsRow_ne hc3 hmb3 (by decide); have ho4 := ownsRow_ne hc3 ho3 (by decide); have HR3 := Lib.hid hr2; have HO3 := Lib.hid ho3; have HBR3 := Lib.hid hbr3; have HC3 := Lib.hid hc3; have HB3 := Lib.hid hb3; clear hr2 hlat hfr ho3 hmb3 hbr3 hc3 hb3
          refine hK.out _ _ ?_ (fun hHeld => ?_)
          · first | exact ⟨x0, x1, x2, x3⟩ | go_keep | (go_split_ands; refine ⟨?_, ?_, ?_, ?_⟩ <;> (rw [hgrow.cell_far _ (by simp; omega) (Ne.symm hm4)]; assumption)) | (go_split_ands; refine ⟨?_, ?_, ?_, ?_⟩ <;> (rw [World.cell?_setCell_other _ _ _ _ (by simp <;> omega)]; assumption))
          clear hK K
          (try simp only [Act.put, List.setIfInBounds_toArray, List.set_cons_zero, List.set_cons_succ])
          refine wpAnyH_ready (rs := [6]) (by kernel_rfl) (by simp) ?_
          refine AllReadyH.cons (o := { dst := some 41, op := Go.Op.buildSlice 23 1 #[(0, Go.Operand.tmp 40)], type := 23, pos := "copies.go:108", after := #[{ on := 5, ground := Go.Ground.data }], guard := none }) rfl (fun K hK => ?_) ?_
          · go_simp
            refine hK.out _ _ ?_ (fun hHeld => ?_)
            · first | exact ⟨x0, x1, x2, x3⟩ | go_keep | (go_split_ands; refine ⟨?_, ?_, ?_, ?_⟩ <;> (rw [hgrow.cell_far _ (by simp; omega) (Ne.symm hm4)]; assumption)) | (go_split_ands; refine ⟨?_, ?_, ?_, ?_⟩ <;> (rw [World.cell?_setCell_other _ _ _ _ (by simp <;> omega)]; assumption))
            clear hK K
            (try simp only [Act.put, List.setIfInBounds_toArray, List.set_cons_zero, List.set_cons_succ])
            refine wpAnyH_ready (rs := [7]) (by kernel_rfl) (by simp) ?_
            refine AllReadyH.cons (o := { dst := some 42, op := Go.Op.call { callee := Go.Callee.builtin Go.Builtin.append, args := #[Go.Operand.tmp 36, Go.Operand.tmp 41], argTypes := #[23, 23] }, type := 23, pos := "copies.go:108", after := #[{ on := 1, ground := Go.Ground.data }, { on := 6, ground := Go.Ground.data }, { on := 5, ground := Go.Ground.chain }], guard := none }) rfl (fun K hK => ?_) ?_
            · refine step_append_lies _ (by rfl) _ _ _ (by rfl) B 28 i0 _ 1 8 Try.underlying23 hi0 hz0 hz1 hz2 rfl (by omega) cv k _ (by rfl) (HC3.out.alloc _) ⟨w3.heap.size, 0, none⟩ 1 1 [.int .i64 (step (run (init n) (L.take k) 0).1 mv k).2] (by rfl) (by rfl) (World.news_of_block (cs := #[.int .i64 (step (run (init n) (L.take k) 0).1 mv k).2]) (t := 28) (fr := (0, 0)) (heap_alloc_new w3 _)) (by simp [Value.oneCell']) (by omega) (by unfold maxLen; omega) (by omega) (by simp; omega) (w3.heap.size + 1) (by simp) ?_; intro gg cap2 wn hown1 hgrow hat hlt2; have zn : wn.cell? ⟨B + 1 + 1 + 1, 0, none⟩ = some cv := (hgrow.cell_far ⟨B + 1 + 1 + 1, 0, none⟩ (by simp; omega) (Ne.symm ho4)).trans (by rw [World.cell?_alloc_past _ _ _ (by omega)]; exact z3); have fn : wn.frozen? ⟨B + 1 + 1 + 1, 0, none⟩ = false := (hgrow.frozen_far ⟨B + 1 + 1 + 1, 0, none⟩ (by simp; omega) (Ne.symm ho4)).trans (by rw [World.frozen?_alloc_past _ _ _ (by omega)]; exact f3)
              refine hK.out _ _ ?_ (fun hHeld => ?_)
              · first | exact ⟨x0, x1, x2, x3⟩ | go_keep | (go_split_ands; refine ⟨?_, ?_, ?_, ?_⟩ <;> (rw [hgrow.cell_far _ (by simp; omega) (Ne.symm hm4)]; assumption)) | (go_split_ands; refine ⟨?_, ?_, ?_, ?_⟩ <;> (rw [World.cell?_setCell_other _ _ _ _ (by simp <;> omega)]; assumption))
              clear hK K
              (try simp only [Act.put, List.setIfInBounds_toArray, List.set_cons_zero, List.set_cons_succ])
              refine wpAnyH_take (i := 8) (oi := { dst := some 43, op := Go.Op.fieldAddr 27 (Go.Operand.tmp 7) 0, type := 0, pos := "copies.go:108", after := #[{ on := 0, ground := Go.Ground.phase }, { on := 1, ground := Go.Ground.phase }, { on := 2, ground := Go.Ground.phase }, { on := 3, ground := Go.Ground.phase }, { on := 4, ground := Go.Ground.phase }, { on := 5, ground := Go.Ground.phase }, { on := 6, ground := Go.Ground.phase }, { on := 7, ground := Go.Ground.phase }], guard := none }) (v := ?_) rfl (by kernel_rfl) (by kernel_rfl) (by kernel_rfl) (fun _ _ _ h => h) (Or.inl ⟨by rfl, ?_⟩) (by assumption) ?_
              rotate_left 1
              · intro w hSw; (try dsimp only at hSw); go_simp; try with_reducible rfl
              (try simp only [Act.put, List.setIfInBounds_toArray, List.set_cons_zero, List.set_cons_succ])
              refine wpAnyH_ready (rs := [9]) (by kernel_rfl) (by simp) ?_
              refine AllReadyH.cons (o := { dst := none, op := Go.Op.store 23 (Go.Operand.tmp 43) (Go.Operand.tmp 42), type := 0, pos := "copies.go:108", after := #[{ on := 8, ground := Go.Ground.data }, { on := 7, ground := Go.Ground.data }, { on := 7, ground := Go.Ground.chain }, { on := 0, ground := Go.Ground.phase }, { on := 1, ground := Go.Ground.phase }, { on := 2, ground := Go.Ground.phase }, { on := 3, ground := Go.Ground.phase }, { on := 4, ground := Go.Ground.phase }, { on := 5, ground := Go.Ground.phase }, { on := 6, ground := Go.Ground.phase }, { on := 7, ground := Go.Ground.phase }], guard := none }) rfl (fun K hK => ?_) ?_
              · go_simp
                refine hK.out _ _ ?_ (fun hHeld => ?_)
                · first | exact ⟨x0, x1, x2, x3⟩ | go_keep | (go_split_ands; refine ⟨?_, ?_, ?_, ?_⟩ <;> (rw [hgrow.cell_far _ (by simp; omega) (Ne.symm hm4)]; assumption)) | (go_split_ands; refine ⟨?_, ?_, ?_, ?_⟩ <;> (rw [World.cell?_setCell_other _ _ _ _ (by simp <;> omega)]; assumption))
                clear hK K
                (try simp only [Act.put, List.setIfInBounds_toArray, List.set_cons_zero, List.set_cons_succ])
                refine wpAnyH_done (by kernel_rfl) ?_ _
                go_wp2
                go_roundw
                case rel => exact ⟨k + 1, by omega, by go_num, inv_step HMV.out HR3.out HO3.out HBR3.out HB3.out HC3.out hgrow rfl hown1 rfl hat⟩
                case measure => simp [intOf]; omega
              exact AllReadyH.nil
            exact AllReadyH.nil
          exact AllReadyH.nil
        exact AllReadyH.nil
      refine AllReadyH.cons (o := { dst := some 40, op := Go.Op.call { callee := Go.Callee.value (Go.Operand.func 7), args := #[Go.Operand.tmp 37, Go.Operand.tmp 38, Go.Operand.tmp 39], argTypes := #[39, 33, 3] }, type := 28, pos := "copies.go:108", after := #[{ on := 2, ground := Go.Ground.data }, { on := 3, ground := Go.Ground.data }, { on := 4, ground := Go.Ground.data }], guard := none }) rfl (fun K hK => ?_) ?_
      · go_simp; refine (do_any mv k HR.out.drew HF.out h6 (by omega)).mono ?_; rintro e w3 ⟨rfl, ⟨ov2, hr2, hlat⟩, hfr⟩; have ho3 := HR.out.drew.blk_later hfr (b := B + 1 + 1 + 1) HO.out (by decide) (by decide) (by decide); have hmb3 := HR.out.drew.blk_later hfr (b := mb) HMB.out (by decide) (by decide) (by decide); have hbr3 := HR.out.drew.blk_later hfr (b := B) HBR.out (by decide) (by decide) (by decide); have hc3 := HR.out.drew.row_later hfr HC.out (by decide) (by decide) (by decide); have hb3 := HBB.out.drew.trans (HR.out.drew.below hfr (by simp; omega)); have x0 := hmb3.cell (o := 0) rfl; have x1 := hmb3.cell (o := 1) rfl; have x2 := hmb3.cell (o := 2) rfl; have x3 := hmb3.cell (o := 3) rfl; have z3 := ho3.cell (o := 0) rfl; have f3 := ho3.frozen 0; have hs3 := hmb3.lt; have hs4 := ho3.lt; have hm4 := ownsRow_ne hc3 hmb3 (by decide); have ho4 := ownsRow_ne hc3 ho3 (by decide); have HR3 := Lib.hid hr2; have HO3 := Lib.hid ho3; have HBR3 := Lib.hid hbr3; have HC3 := Lib.hid hc3; have HB3 := Lib.hid hb3; clear hr2 hlat hfr ho3 hmb3 hbr3 hc3 hb3
        refine hK.out _ _ ?_ (fun hHeld => ?_)
        · first | exact ⟨x0, x1, x2, x3⟩ | go_keep | (go_split_ands; refine ⟨?_, ?_, ?_, ?_⟩ <;> (rw [hgrow.cell_far _ (by simp; omega) (Ne.symm hm4)]; assumption)) | (go_split_ands; refine ⟨?_, ?_, ?_, ?_⟩ <;> (rw [World.cell?_setCell_other _ _ _ _ (by simp <;> omega)]; assumption))
        clear hK K
        (try simp only [Act.put, List.setIfInBounds_toArray, List.set_cons_zero, List.set_cons_succ])
        refine wpAnyH_ready (rs := [1, 6]) (by kernel_rfl) (by simp) ?_
        refine AllReadyH.cons (o := { dst := some 36, op := Go.Op.load 23 (Go.Operand.tmp 35), type := 23, pos := "copies.go:108", after := #[{ on := 0, ground := Go.Ground.data }], guard := none }) rfl (fun K hK => ?_) ?_
        · go_simp
          refine hK.out _ _ ?_ (fun hHeld => ?_)
          · first | exact ⟨x0, x1, x2, x3⟩ | go_keep | (go_split_ands; refine ⟨?_, ?_, ?_, ?_⟩ <;> (rw [hgrow.cell_far _ (by simp; omega) (Ne.symm hm4)]; assumption)) | (go_split_ands; refine ⟨?_, ?_, ?_, ?_⟩ <;> (rw [World.cell?_setCell_other _ _ _ _ (by simp <;> omega)]; assumption))
          clear hK K
          (try simp only [Act.put, List.setIfInBounds_toArray, List.set_cons_zero, List.set_cons_succ])
          refine wpAnyH_ready (rs := [6]) (by kernel_rfl) (by simp) ?_
          refine AllReadyH.cons (o := { dst := some 41, op := Go.Op.buildSlice 23 1 #[(0, Go.Operand.tmp 40)], type := 23, pos := "copies.go:108", after := #[{ on := 5, ground := Go.Ground.data }], guard := none }) rfl (fun K hK => ?_) ?_
          · go_simp
            refine hK.out _ _ ?_ (fun hHeld => ?_)
            · first | exact ⟨x0, x1, x2, x3⟩ | go_keep | (go_split_ands; refine ⟨?_, ?_, ?_, ?_⟩ <;> (rw [hgrow.cell_far _ (by simp; omega) (Ne.symm hm4)]; assumption)) | (go_split_ands; refine ⟨?_, ?_, ?_, ?_⟩ <;> (rw [World.cell?_setCell_other _ _ _ _ (by simp <;> omega)]; assumption))
            clear hK K
            (try simp only [Act.put, List.setIfInBounds_toArray, List.set_cons_zero, List.set_cons_succ])
            refine wpAnyH_ready (rs := [7]) (by kernel_rfl) (by simp) ?_
            refine AllReadyH.cons (o := { dst := some 42, op := Go.Op.call { callee := Go.Callee.builtin Go.Builtin.append, args := #[Go.Operand.tmp 36, Go.Operand.tmp 41], argTypes := #[23, 23] }, type := 23, pos := "copies.go:108", after := #[{ on := 1, ground := Go.Ground.data }, { on := 6, ground := Go.Ground.data }, { on := 5, ground := Go.Ground.chain }], guard := none }) rfl (fun K hK => ?_) ?_
            · refine step_append_lies _ (by rfl) _ _ _ (by rfl) B 28 i0 _ 1 8 Try.underlying23 hi0 hz0 hz1 hz2 rfl (by omega) cv k _ (by rfl) (HC3.out.alloc _) ⟨w3.heap.size, 0, none⟩ 1 1 [.int .i64 (step (run (init n) (L.take k) 0).1 mv k).2] (by rfl) (by rfl) (World.news_of_block (cs := #[.int .i64 (step (run (init n) (L.take k) 0).1 mv k).2]) (t := 28) (fr := (0, 0)) (heap_alloc_new w3 _)) (by simp [Value.oneCell']) (by omega) (by unfold maxLen; omega) (by omega) (by simp; omega) (w3.heap.size + 1) (by simp) ?_; intro gg cap2 wn hown1 hgrow hat hlt2; have zn : wn.cell? ⟨B + 1 + 1 + 1, 0, none⟩ = some cv := (hgrow.cell_far ⟨B + 1 + 1 + 1, 0, none⟩ (by simp; omega) (Ne.symm ho4)).trans (by rw [World.cell?_alloc_past _ _ _ (by omega)]; exact z3); have fn : wn.frozen? ⟨B + 1 + 1 + 1, 0, none⟩ = false := (hgrow.frozen_far ⟨B + 1 + 1 + 1, 0, none⟩ (by simp; omega) (Ne.symm ho4)).trans (by rw [World.frozen?_alloc_past _ _ _ (by omega)]; exact f3)
              refine hK.out _ _ ?_ (fun hHeld => ?_)
              · first | exact ⟨x0, x1, x2, x3⟩ | go_keep | (go_split_ands; refine ⟨?_, ?_, ?_, ?_⟩ <;> (rw [hgrow.cell_far _ (by simp; omega) (Ne.symm hm4)]; assumption)) | (go_split_ands; refine ⟨?_, ?_, ?_, ?_⟩ <;> (rw [World.cell?_setCell_other _ _ _ _ (by simp <;> omega)]; assumption))
              clear hK K
              (try simp only [Act.put, List.setIfInBounds_toArray, List.set_cons_zero, List.set_cons_succ])
              refine wpAnyH_take (i := 8) (oi := { dst := some 43, op := Go.Op.fieldAddr 27 (Go.Operand.tmp 7) 0, type := 0, pos := "copies.go:108", after := #[{ on := 0, ground := Go.Ground.phase }, { on := 1, ground := Go.Ground.phase }, { on := 2, ground := Go.Ground.phase }, { on := 3, ground := Go.Ground.phase }, { on := 4, ground := Go.Ground.phase }, { on := 5, ground := Go.Ground.phase }, { on := 6, ground := Go.Ground.phase }, { on := 7, ground := Go.Ground.phase }], guard := none }) (v := ?_) rfl (by kernel_rfl) (by kernel_rfl) (by kernel_rfl) (fun _ _ _ h => h) (Or.inl ⟨by rfl, ?_⟩) (by assumption) ?_
              rotate_left 1
              · intro w hSw; (try dsimp only at hSw); go_simp; try with_reducible rfl
              (try simp only [Act.put, List.setIfInBounds_toArray, List.set_cons_zero, List.set_cons_succ])
              refine wpAnyH_ready (rs := [9]) (by kernel_rfl) (by simp) ?_
              refine AllReadyH.cons (o := { dst := none, op := Go.Op.store 23 (Go.Operand.tmp 43) (Go.Operand.tmp 42), type := 0, pos := "copies.go:108", after := #[{ on := 8, ground := Go.Ground.data }, { on := 7, ground := Go.Ground.data }, { on := 7, ground := Go.Ground.chain }, { on := 0, ground := Go.Ground.phase }, { on := 1, ground := Go.Ground.phase }, { on := 2, ground := Go.Ground.phase }, { on := 3, ground := Go.Ground.phase }, { on := 4, ground := Go.Ground.phase }, { on := 5, ground := Go.Ground.phase }, { on := 6, ground := Go.Ground.phase }, { on := 7, ground := Go.Ground.phase }], guard := none }) rfl (fun K hK => ?_) ?_
              · go_simp
                refine hK.out _ _ ?_ (fun hHeld => ?_)
                · first | exact ⟨x0, x1, x2, x3⟩ | go_keep | (go_split_ands; refine ⟨?_, ?_, ?_, ?_⟩ <;> (rw [hgrow.cell_far _ (by simp; omega) (Ne.symm hm4)]; assumption)) | (go_split_ands; refine ⟨?_, ?_, ?_, ?_⟩ <;> (rw [World.cell?_setCell_other _ _ _ _ (by simp <;> omega)]; assumption))
                clear hK K
                (try simp only [Act.put, List.setIfInBounds_toArray, List.set_cons_zero, List.set_cons_succ])
                refine wpAnyH_done (by kernel_rfl) ?_ _
                go_wp2
                go_roundw
                case rel => exact ⟨k + 1, by omega, by go_num, inv_step HMV.out HR3.out HO3.out HBR3.out HB3.out HC3.out hgrow rfl hown1 rfl hat⟩
                case measure => simp [intOf]; omega
              exact AllReadyH.nil
            exact AllReadyH.nil
          exact AllReadyH.nil
        refine AllReadyH.cons (o := { dst := some 41, op := Go.Op.buildSlice 23 1 #[(0, Go.Operand.tmp 40)], type := 23, pos := "copies.go:108", after := #[{ on := 5, ground := Go.Ground.data }], guard := none }) rfl (fun K hK => ?_) ?_
        · go_simp
          refine hK.out _ _ ?_ (fun hHeld => ?_)
          · first | exact ⟨x0, x1, x2, x3⟩ | go_keep | (go_split_ands; refine ⟨?_, ?_, ?_, ?_⟩ <;> (rw [hgrow.cell_far _ (by simp; omega) (Ne.symm hm4)]; assumption)) | (go_split_ands; refine ⟨?_, ?_, ?_, ?_⟩ <;> (rw [World.cell?_setCell_other _ _ _ _ (by simp <;> omega)]; assumption))
          clear hK K
          (try simp only [Act.put, List.setIfInBounds_toArray, List.set_cons_zero, List.set_cons_succ])
          refine wpAnyH_ready (rs := [1]) (by kernel_rfl) (by simp) ?_
          refine AllReadyH.cons (o := { dst := some 36, op := Go.Op.load 23 (Go.Operand.tmp 35), type := 23, pos := "copies.go:108", after := #[{ on := 0, ground := Go.Ground.data }], guard := none }) rfl (fun K hK => ?_) ?_
          · go_simp
            refine hK.out _ _ ?_ (fun hHeld => ?_)
            · first | exact ⟨x0, x1, x2, x3⟩ | go_keep | (go_split_ands; refine ⟨?_, ?_, ?_, ?_⟩ <;> (rw [hgrow.cell_far _ (by simp; omega) (Ne.symm hm4)]; assumption)) | (go_split_ands; refine ⟨?_, ?_, ?_, ?_⟩ <;> (rw [World.cell?_setCell_other _ _ _ _ (by simp <;> omega)]; assumption))
            clear hK K
            (try simp only [Act.put, List.setIfInBounds_toArray, List.set_cons_zero, List.set_cons_succ])
            refine wpAnyH_ready (rs := [7]) (by kernel_rfl) (by simp) ?_
            refine AllReadyH.cons (o := { dst := some 42, op := Go.Op.call { callee := Go.Callee.builtin Go.Builtin.append, args := #[Go.Operand.tmp 36, Go.Operand.tmp 41], argTypes := #[23, 23] }, type := 23, pos := "copies.go:108", after := #[{ on := 1, ground := Go.Ground.data }, { on := 6, ground := Go.Ground.data }, { on := 5, ground := Go.Ground.chain }], guard := none }) rfl (fun K hK => ?_) ?_
            · refine step_append_lies _ (by rfl) _ _ _ (by rfl) B 28 i0 _ 1 8 Try.underlying23 hi0 hz0 hz1 hz2 rfl (by omega) cv k _ (by rfl) (HC3.out.alloc _) ⟨w3.heap.size, 0, none⟩ 1 1 [.int .i64 (step (run (init n) (L.take k) 0).1 mv k).2] (by rfl) (by rfl) (World.news_of_block (cs := #[.int .i64 (step (run (init n) (L.take k) 0).1 mv k).2]) (t := 28) (fr := (0, 0)) (heap_alloc_new w3 _)) (by simp [Value.oneCell']) (by omega) (by unfold maxLen; omega) (by omega) (by simp; omega) (w3.heap.size + 1) (by simp) ?_; intro gg cap2 wn hown1 hgrow hat hlt2; have zn : wn.cell? ⟨B + 1 + 1 + 1, 0, none⟩ = some cv := (hgrow.cell_far ⟨B + 1 + 1 + 1, 0, none⟩ (by simp; omega) (Ne.symm ho4)).trans (by rw [World.cell?_alloc_past _ _ _ (by omega)]; exact z3); have fn : wn.frozen? ⟨B + 1 + 1 + 1, 0, none⟩ = false := (hgrow.frozen_far ⟨B + 1 + 1 + 1, 0, none⟩ (by simp; omega) (Ne.symm ho4)).trans (by rw [World.frozen?_alloc_past _ _ _ (by omega)]; exact f3)
              refine hK.out _ _ ?_ (fun hHeld => ?_)
              · first | exact ⟨x0, x1, x2, x3⟩ | go_keep | (go_split_ands; refine ⟨?_, ?_, ?_, ?_⟩ <;> (rw [hgrow.cell_far _ (by simp; omega) (Ne.symm hm4)]; assumption)) | (go_split_ands; refine ⟨?_, ?_, ?_, ?_⟩ <;> (rw [World.cell?_setCell_other _ _ _ _ (by simp <;> omega)]; assumption))
              clear hK K
              (try simp only [Act.put, List.setIfInBounds_toArray, List.set_cons_zero, List.set_cons_succ])
              refine wpAnyH_take (i := 8) (oi := { dst := some 43, op := Go.Op.fieldAddr 27 (Go.Operand.tmp 7) 0, type := 0, pos := "copies.go:108", after := #[{ on := 0, ground := Go.Ground.phase }, { on := 1, ground := Go.Ground.phase }, { on := 2, ground := Go.Ground.phase }, { on := 3, ground := Go.Ground.phase }, { on := 4, ground := Go.Ground.phase }, { on := 5, ground := Go.Ground.phase }, { on := 6, ground := Go.Ground.phase }, { on := 7, ground := Go.Ground.phase }], guard := none }) (v := ?_) rfl (by kernel_rfl) (by kernel_rfl) (by kernel_rfl) (fun _ _ _ h => h) (Or.inl ⟨by rfl, ?_⟩) (by assumption) ?_
              rotate_left 1
              · intro w hSw; (try dsimp only at hSw); go_simp; try with_reducible rfl
              (try simp only [Act.put, List.setIfInBounds_toArray, List.set_cons_zero, List.set_cons_succ])
              refine wpAnyH_ready (rs := [9]) (by kernel_rfl) (by simp) ?_
              refine AllReadyH.cons (o := { dst := none, op := Go.Op.store 23 (Go.Operand.tmp 43) (Go.Operand.tmp 42), type := 0, pos := "copies.go:108", after := #[{ on := 8, ground := Go.Ground.data }, { on := 7, ground := Go.Ground.data }, { on := 7, ground := Go.Ground.chain }, { on := 0, ground := Go.Ground.phase }, { on := 1, ground := Go.Ground.phase }, { on := 2, ground := Go.Ground.phase }, { on := 3, ground := Go.Ground.phase }, { on := 4, ground := Go.Ground.phase }, { on := 5, ground := Go.Ground.phase }, { on := 6, ground := Go.Ground.phase }, { on := 7, ground := Go.Ground.phase }], guard := none }) rfl (fun K hK => ?_) ?_
              · go_simp
                refine hK.out _ _ ?_ (fun hHeld => ?_)
                · first | exact ⟨x0, x1, x2, x3⟩ | go_keep | (go_split_ands; refine ⟨?_, ?_, ?_, ?_⟩ <;> (rw [hgrow.cell_far _ (by simp; omega) (Ne.symm hm4)]; assumption)) | (go_split_ands; refine ⟨?_, ?_, ?_, ?_⟩ <;> (rw [World.cell?_setCell_other _ _ _ _ (by simp <;> omega)]; assumption))
                clear hK K
                (try simp only [Act.put, List.setIfInBounds_toArray, List.set_cons_zero, List.set_cons_succ])
                refine wpAnyH_done (by kernel_rfl) ?_ _
                go_wp2
                go_roundw
                case rel => exact ⟨k + 1, by omega, by go_num, inv_step HMV.out HR3.out HO3.out HBR3.out HB3.out HC3.out hgrow rfl hown1 rfl hat⟩
                case measure => simp [intOf]; omega
              exact AllReadyH.nil
            exact AllReadyH.nil
          exact AllReadyH.nil
        exact AllReadyH.nil
      exact AllReadyH.nil
    · obtain ⟨oa, oc, rfl⟩ := ownsRow_form hr.ops
      obtain ⟨ca, cc, rfl⟩ := ownsRow_form hc
      have hk2 : k = L.length := by omega
      subst hk2
      rw [List.take_length] at hr hc
      have hfin := run_fine L (Fine.ofInit n) h6 0
      generalize hRR : run (init n) L 0 = R at hr hc hfin
      obtain ⟨sF, cs⟩ := R
      have HRR := Lib.hid hRR
      clear hRR
      have hcl : cs.length = L.length := by have := hc.1; simpa using this
      have hln := hfin.len
      simp only at hr hc hln
      have c50 := hr.all.cell (AllL_ops (B + 1) _ _ hr.six)
      have c0 := hr.all.cell (o := 0) rfl
      rw [hln] at c0
      have o0 := ho.cell (o := 0) rfl
      have o1 := ho.cell (o := 1) rfl
      have fo := ho.frozen
      have HC : Hid (Core B w (.slice ca L.length cc) (.slice oa sF.ops.length oc) sF (cs.map (Value.int .i64)) NilS NilS (wr.setCell ⟨B + 1 + 1 + 1, 1, none⟩ (.slice oa sF.ops.length oc))) := by
        obtain ⟨e1, e2, e3⟩ := hr.blk_ne ho (by decide) (by decide) (by decide)
        refine Lib.hid ⟨hr.set_far _ _ _ (Ne.symm e1) (Ne.symm e2) e3, ho.set 1 _, ?_, hbr.set_ne _ _ (by simp; omega), hb.setCell (by simp; omega) _⟩
        have := ownsRow_setCell_other hc (a := ⟨B + 1 + 1 + 1, 1, none⟩) (ownsRow_ne hc ho (by decide)) (.slice oa sF.ops.length oc)
        simpa [hcl] using this
      clear hr ho hc hbr hb
      go_wp2_with fail
      refine gen_world (P := Code.wp Try.prog _ _ _) (Q := Inv2 B w (.slice ca L.length cc) (.slice oa sF.ops.length oc) sF (cs.map (Value.int .i64)) 0) _ ?_ ?_
      · exact ⟨NilS, NilS, HC.out, World.ownsRow_nil _ _ _ _, World.ownsRow_nil _ _ _ _, .inl rfl⟩
      clear c50 c0 o0 o1 fo HC
      intro w4 hI
      go_loopw [55] (fun i wq => ∃ j : Nat, j ≤ n ∧ i = .int .i64 j ∧ Inv2 B w (.slice ca L.length cc) (.slice oa sF.ops.length oc) sF (cs.map (Value.int .i64)) j wq) (fun i _ => n - (intOf i).toNat)
      case atStart => exact ⟨0, Nat.zero_le _, rfl, hI⟩
      case round =>
        clear hI
        obtain ⟨j, hj, rfl, sv, vv, hCo, hS, hV, hA⟩ := hrel
        obtain ⟨sa, sc, rfl⟩ := ownsRow_form hS
        obtain ⟨va, vc, rfl⟩ := ownsRow_form hV
        by_cases hlt2 : j < n
        · have hkk : ∃ kk, sF.l[j]? = some kk := ⟨sF.l[j]'(by omega), List.getElem?_eq_getElem (by omega)⟩
          obtain ⟨kk, hkk⟩ := hkk
          have r0 := hCo.rep.kcell j 0 kk _ (by omega) hkk rfl
          have r1 := hCo.rep.kcell j 1 kk _ (by omega) hkk rfl
          dsimp only [Nat.add_zero] at r0 r1
          have HC := Lib.hid hCo
          have HS := Lib.hid hS
          have HV := Lib.hid hV
          have HA := Lib.hid hA
          have HKK := Lib.hid hkk
          clear hCo hS hV hA hkk
          go_wp2_with fail
          refine gen_world (P := Code.wp Try.prog _ _ _) (Q := fun W => Core B w (.slice ca L.length cc) (.slice oa sF.ops.length oc) sF (cs.map (Value.int .i64)) (.slice sa j sc) (.slice va j vc) W ∧ W.ownsRow B 3 1 (.slice sa j sc) j ((sF.l.take j).map fun k => Value.int .i64 k.stamp) ∧
            W.ownsRow B 3 1 (.slice va j vc) j ((sF.l.take j).map fun k => Value.int .i64 k.val) ∧ Blk W wr.heap.size [.int .i64 kk.stamp, .int .i64 kk.val] 43) _ ?_ ?_
          · exact ⟨HC.out.alloc _, HS.out.alloc _, HV.out.alloc _, Blk.new wr _ _⟩
          clear r0 r1 HC HS HV
          intro w5 ⟨hC, hS, hV, hK⟩
          generalize wr.heap.size = kb at hK ⊢
          have x0 := hK.cell (o := 0) rfl
          have x1 := hK.cell (o := 1) rfl
          have z2 := hC.out.cell (o := 2) rfl
          have z3 := hC.out.cell (o := 3) rfl
          have hsz := hC.lt
          have hkb := hK.lt
          have nk1 := ownsRow_ne hS hK (by decide)
          have nk2 := ownsRow_ne hV hK (by decide)
          have HC := Lib.hid hC
          have HS := Lib.hid hS
          have HV := Lib.hid hV
          have HK := Lib.hid hK
          clear hC hS hV hK
          obtain ⟨i0, hi0, hz0, hz1, hz2⟩ := info_parts info3
          refine wp_region_parted (S := (fun w' => w'.cell? ⟨kb, 0, none⟩ = some (.int .i64 kk.stamp) ∧ w'.cell? ⟨kb, 1, none⟩ = some (.int .i64 kk.val) ∧ w'.cell? ⟨B + 1 + 1 + 1, 2, none⟩ = some (.slice sa j sc) ∧ w'.cell? ⟨B + 1 + 1 + 1, 3, none⟩ = some (.slice va j vc))) #[{ dst := some 59, op := Go.Op.fieldAddr 27 (Go.Operand.tmp 7) 2, type := 0, pos := "copies.go:112", after := #[], guard := none }, { dst := some 60, op := Go.Op.load 25 (Go.Operand.tmp 59), type := 25, pos := "copies.go:112", after := #[{ on := 0, ground := Go.Ground.data }], guard := none }, { dst := some 61, op := Go.Op.fieldAddr 43 (Go.Operand.tmp 11) 0, type := 0, pos := "copies.go:112", after := #[], guard := none }, { dst := some 62, op := Go.Op.load 3 (Go.Operand.tmp 61), type := 3, pos := "copies.go:112", after := #[{ on := 2, ground := Go.Ground.data }], guard := none }, { dst := some 63, op := Go.Op.buildSlice 25 1 #[(0, Go.Operand.tmp 62)], type := 25, pos := "copies.go:112", after := #[{ on := 3, ground := Go.Ground.data }], guard := none }, { dst := some 64, op := Go.Op.call { callee := Go.Callee.builtin Go.Builtin.append, args := #[Go.Operand.tmp 60, Go.Operand.tmp 63], argTypes := #[25, 25] }, type := 25, pos := "copies.go:112", after := #[{ on := 1, ground := Go.Ground.data }, { on := 4, ground := Go.Ground.data }], guard := none }, { dst := some 65, op := Go.Op.fieldAddr 27 (Go.Operand.tmp 7) 3, type := 0, pos := "copies.go:112", after := #[], guard := none }, { dst := some 66, op := Go.Op.load 25 (Go.Operand.tmp 65), type := 25, pos := "copies.go:112", after := #[{ on := 6, ground := Go.Ground.data }], guard := none }, { dst := some 67, op := Go.Op.fieldAddr 43 (Go.Operand.tmp 11) 1, type := 0, pos := "copies.go:112", after := #[], guard := none }, { dst := some 68, op := Go.Op.load 3 (Go.Operand.tmp 67), type := 3, pos := "copies.go:112", after := #[{ on := 8, ground := Go.Ground.data }], guard := none }, { dst := some 69, op := Go.Op.buildSlice 25 1 #[(0, Go.Operand.tmp 68)], type := 25, pos := "copies.go:112", after := #[{ on := 9, ground := Go.Ground.data }], guard := none }, { dst := some 70, op := Go.Op.call { callee := Go.Callee.builtin Go.Builtin.append, args := #[Go.Operand.tmp 66, Go.Operand.tmp 69], argTypes := #[25, 25] }, type := 25, pos := "copies.go:112", after := #[{ on := 7, ground := Go.Ground.data }, { on := 10, ground := Go.Ground.data }, { on := 5, ground := Go.Ground.chain }], guard := none }, { dst := some 71, op := Go.Op.fieldAddr 27 (Go.Operand.tmp 7) 2, type := 0, pos := "copies.go:112", after := #[{ on := 0, ground := Go.Ground.phase }, { on := 1, ground := Go.Ground.phase }, { on := 2, ground := Go.Ground.phase }, { on := 3, ground := Go.Ground.phase }, { on := 4, ground := Go.Ground.phase }, { on := 5, ground := Go.Ground.phase }, { on := 6, ground := Go.Ground.phase }, { on := 7, ground := Go.Ground.phase }, { on := 8, ground := Go.Ground.textOnly Go.Departure.lateStores }, { on := 9, ground := Go.Ground.textOnly Go.Departure.lateStores }, { on := 10, ground := Go.Ground.textOnly Go.Departure.lateStores }, { on := 11, ground := Go.Ground.textOnly Go.Departure.lateStoresUnsure }], guard := none }] (by kernel_rfl) (by kernel_rfl) (by kernel_rfl) ?_ (fun hHeld => ?_)
          · first | exact ⟨x0, x1, z2, z3⟩ | go_keep | exact ⟨y0, y1, y2, y3⟩ | exact ⟨v0, v1, v2, v3⟩
          skip
          refine wpAnyH_take (i := 0) (oi := { dst := some 59, op := Go.Op.fieldAddr 27 (Go.Operand.tmp 7) 2, type := 0, pos := "copies.go:112", after := #[], guard := none }) (v := ?_) rfl (by kernel_rfl) (by kernel_rfl) (by kernel_rfl) (fun _ _ _ h => h) (Or.inl ⟨by rfl, ?_⟩) (by assumption) ?_
          rotate_left 1
          · intro w hSw; (try dsimp only at hSw); go_simp; try with_reducible rfl
          (try simp only [Act.put, List.setIfInBounds_toArray, List.set_cons_zero, List.set_cons_succ])
          refine wpAnyH_take (i := 1) (oi := { dst := some 60, op := Go.Op.load 25 (Go.Operand.tmp 59), type := 25, pos := "copies.go:112", after := #[{ on := 0, ground := Go.Ground.data }], guard := none }) (v := ?_) rfl (by kernel_rfl) (by kernel_rfl) (by kernel_rfl) (fun _ _ _ h => h) (Or.inl ⟨by rfl, ?_⟩) (by assumption) ?_
          rotate_left 1
          · intro w hSw; (try dsimp only at hSw); go_simp; try with_reducible rfl
          (try simp only [Act.put, List.setIfInBounds_toArray, List.set_cons_zero, List.set_cons_succ])
          refine wpAnyH_take (i := 2) (oi := { dst := some 61, op := Go.Op.fieldAddr 43 (Go.Operand.tmp 11) 0, type := 0, pos := "copies.go:112", after := #[], guard := none }) (v := ?_) rfl (by kernel_rfl) (by kernel_rfl) (by kernel_rfl) (fun _ _ _ h => h) (Or.inl ⟨by rfl, ?_⟩) (by assumption) ?_
          rotate_left 1
          · intro w hSw; (try dsimp only at hSw); go_simp; try with_reducible rfl
          (try simp only [Act.put, List.setIfInBounds_toArray, List.set_cons_zero, List.set_cons_succ])
          refine wpAnyH_take (i := 3) (oi := { dst := some 62, op := Go.Op.load 3 (Go.Operand.tmp 61), type := 3, pos := "copies.go:112", after := #[{ on := 2, ground := Go.Ground.data }], guard := none }) (v := ?_) rfl (by kernel_rfl) (by kernel_rfl) (by kernel_rfl) (fun _ _ _ h => h) (Or.inl ⟨by rfl, ?_⟩) (by assumption) ?_
          rotate_left 1
          · intro w hSw; (try dsimp only at hSw); go_simp; try with_reducible rfl
          (try simp only [Act.put, List.setIfInBounds_toArray, List.set_cons_zero, List.set_cons_succ])
          refine wpAnyH_take (i := 6) (oi := { dst := some 65, op := Go.Op.fieldAddr 27 (Go.Operand.tmp 7) 3, type := 0, pos := "copies.go:112", after := #[], guard := none }) (v := ?_) rfl (by kernel_rfl) (by kernel_rfl) (by kernel_rfl) (fun _ _ _ h => h) (Or.inl ⟨by rfl, ?_⟩) (by assumption) ?_
          rotate_left 1
          · intro w hSw; (try dsimp only at hSw); go_simp; try with_reducible rfl
          (try simp only [Act.put, List.setIfInBounds_toArray, List.set_cons_zero, List.set_cons_succ])
          refine wpAnyH_take (i := 7) (oi := { dst := some 66, op := Go.Op.load 25 (Go.Operand.tmp 65), type := 25, pos := "copies.go:112", after := #[{ on := 6, ground := Go.Ground.data }], guard := none }) (v := ?_) rfl (by kernel_rfl) (by kernel_rfl) (by kernel_rfl) (fun _ _ _ h => h) (Or.inl ⟨by rfl, ?_⟩) (by assumption) ?_
          rotate_left 1
          · intro w hSw; (try dsimp only at hSw); go_simp; try with_reducible rfl
          (try simp only [Act.put, List.setIfInBounds_toArray, List.set_cons_zero, List.set_cons_succ])
          refine wpAnyH_take (i := 8) (oi := { dst := some 67, op := Go.Op.fieldAddr 43 (Go.Operand.tmp 11) 1, type := 0, pos := "copies.go:112", after := #[], guard := none }) (v := ?_) rfl (by kernel_rfl) (by kernel_rfl) (by kernel_rfl) (fun _ _ _ h => h) (Or.inl ⟨by rfl, ?_⟩) (by assumption) ?_
          rotate_left 1
          · intro w hSw; (try dsimp only at hSw); go_simp; try with_reducible rfl
          (try simp only [Act.put, List.setIfInBounds_toArray, List.set_cons_zero, List.set_cons_succ])
          refine wpAnyH_take (i := 9) (oi := { dst := some 68, op := Go.Op.load 3 (Go.Operand.tmp 67), type := 3, pos := "copies.go:112", after := #[{ on := 8, ground := Go.Ground.data }], guard := none }) (v := ?_) rfl (by kernel_rfl) (by kernel_rfl) (by kernel_rfl) (fun _ _ _ h => h) (Or.inl ⟨by rfl, ?_⟩) (by assumption) ?_
          rotate_left 1
          · intro w hSw; (try dsimp only at hSw); go_simp; try with_reducible rfl
          (try simp only [Act.put, List.setIfInBounds_toArray, List.set_cons_zero, List.set_cons_succ])
          refine wpAnyH_ready (rs := [4, 10]) (by kernel_rfl) (by simp) ?_
          refine AllReadyH.cons (o := { dst := some 63, op := Go.Op.buildSlice 25 1 #[(0, Go.Operand.tmp 62)], type := 25, pos := "copies.go:112", after := #[{ on := 3, ground := Go.Ground.data }], guard := none }) rfl (fun K hK => ?_) ?_
          · go_simp
            refine hK.out _ _ ?_ (fun hHeld => ?_)
            · first | exact ⟨x0, x1, z2, z3⟩ | go_keep | exact ⟨y0, y1, y2, y3⟩ | exact ⟨v0, v1, v2, v3⟩
            clear hK K
            (try simp only [Act.put, List.setIfInBounds_toArray, List.set_cons_zero, List.set_cons_succ])
            refine wpAnyH_ready (rs := [5, 10]) (by kernel_rfl) (by simp) ?_
            refine AllReadyH.cons (o := { dst := some 64, op := Go.Op.call { callee := Go.Callee.builtin Go.Builtin.append, args := #[Go.Operand.tmp 60, Go.Operand.tmp 63], argTypes := #[25, 25] }, type := 25, pos := "copies.go:112", after := #[{ on := 1, ground := Go.Ground.data }, { on := 4, ground := Go.Ground.data }], guard := none }) rfl (fun K hK => ?_) ?_
            · refine step_append_lies _ (by rfl) _ _ _ (by rfl) B 3 i0 _ 1 8 Try.underlying25 hi0 hz0 hz1 hz2 rfl (by omega) (.slice sa j sc) j _ (by rfl) ((HS.out.alloc _).drew) ⟨w5.heap.size, 0, none⟩ 1 1 [.int .i64 kk.stamp] (by rfl) (by rfl) (World.news_of_block (cs := #[.int .i64 kk.stamp]) (t := 3) (fr := (0, 0)) (Blk.new w5 _ 3).drew) (by simp [Value.oneCell']) (by omega) (by unfold maxLen; omega) (by omega) (by first | omega | (simp; omega)) (w5.heap.size + 1) (by simp) ?_; intro g1 cap1 wn hown1 hgrow hat hlt1; have hC1 := (HC.out.alloc _).drew.grow ((HS.out.alloc _).drew) hgrow; have hV1 := ((HV.out.alloc _).drew).kept hgrow HA.out.symm; have hA1 : Apart (.slice (some ⟨g1, 0, none⟩) (j + 1) cap1) (.slice va j vc) := HA.out.grown (H := w5.heap.size + 1) (fun k hk => Nat.lt_of_lt_of_le (HV.out.lt k hk).2 (by omega)) hat; have hKn := ((HK.out.alloc _).drew).grown hgrow nk1; have y0 := hKn.cell (o := 0) rfl; have y1 := hKn.cell (o := 1) rfl; have y2 := hC1.out.cell (o := 2) rfl; have y3 := hC1.out.cell (o := 3) rfl; have hs1 := hC1.lt; have hs2 := hKn.lt; have HC1 := Lib.hid hC1; have HV1 := Lib.hid hV1; have HA1 := Lib.hid hA1; have HKN := Lib.hid hKn; have HO1 := Lib.hid hown1; have HG1 := Lib.hid hgrow; have HT1 := Lib.hid hat; clear hC1 hV1 hA1 hKn hown1 hgrow hat
              refine hK.out _ _ ?_ (fun hHeld => ?_)
              · first | exact ⟨x0, x1, z2, z3⟩ | go_keep | exact ⟨y0, y1, y2, y3⟩ | exact ⟨v0, v1, v2, v3⟩
              clear hK K
              (try simp only [Act.put, List.setIfInBounds_toArray, List.set_cons_zero, List.set_cons_succ])
              refine wpAnyH_take (i := 12) (oi := { dst := some 71, op := Go.Op.fieldAddr 27 (Go.Operand.tmp 7) 2, type := 0, pos := "copies.go:112", after := #[{ on := 0, ground := Go.Ground.phase }, { on := 1, ground := Go.Ground.phase }, { on := 2, ground := Go.Ground.phase }, { on := 3, ground := Go.Ground.phase }, { on := 4, ground := Go.Ground.phase }, { on := 5, ground := Go.Ground.phase }, { on := 6, ground := Go.Ground.phase }, { on := 7, ground := Go.Ground.phase }, { on := 8, ground := Go.Ground.textOnly Go.Departure.lateStores }, { on := 9, ground := Go.Ground.textOnly Go.Departure.lateStores }, { on := 10, ground := Go.Ground.textOnly Go.Departure.lateStores }, { on := 11, ground := Go.Ground.textOnly Go.Departure.lateStoresUnsure }], guard := none }) (v := ?_) rfl (by kernel_rfl) (by kernel_rfl) (by kernel_rfl) (fun _ _ _ h => h) (Or.inl ⟨by rfl, ?_⟩) (by assumption) ?_
              rotate_left 1
              · intro w hSw; (try dsimp only at hSw); go_simp; try with_reducible rfl
              (try simp only [Act.put, List.setIfInBounds_toArray, List.set_cons_zero, List.set_cons_succ])
              refine wpAnyH_ready (rs := [10]) (by kernel_rfl) (by simp) ?_
              refine AllReadyH.cons (o := { dst := some 69, op := Go.Op.buildSlice 25 1 #[(0, Go.Operand.tmp 68)], type := 25, pos := "copies.go:112", after := #[{ on := 9, ground := Go.Ground.data }], guard := none }) rfl (fun K hK => ?_) ?_
              · go_simp
                refine hK.out _ _ ?_ (fun hHeld => ?_)
                · first | exact ⟨x0, x1, z2, z3⟩ | go_keep | exact ⟨y0, y1, y2, y3⟩ | exact ⟨v0, v1, v2, v3⟩
                clear hK K
                (try simp only [Act.put, List.setIfInBounds_toArray, List.set_cons_zero, List.set_cons_succ])
                refine wpAnyH_ready (rs := [11]) (by kernel_rfl) (by simp) ?_
                refine AllReadyH.cons (o := { dst := some 70, op := Go.Op.call { callee := Go.Callee.builtin Go.Builtin.append, args := #[Go.Operand.tmp 66, Go.Operand.tmp 69], argTypes := #[25, 25] }, type := 25, pos := "copies.go:112", after := #[{ on := 7, ground := Go.Ground.data }, { on := 10, ground := Go.Ground.data }, { on := 5, ground := Go.Ground.chain }], guard := none }) rfl (fun K hK => ?_) ?_
                · refine step_append_lies _ (by rfl) _ _ _ (by rfl) B 3 i0 _ 1 8 Try.underlying25 hi0 hz0 hz1 hz2 rfl (by omega) (.slice va j vc) j _ (by rfl) (HV1.out.alloc _) ⟨wn.heap.size, 0, none⟩ 1 1 [.int .i64 kk.val] (by rfl) (by rfl) (World.news_of_block (cs := #[.int .i64 kk.val]) (t := 3) (fr := (0, 0)) (Blk.new wn _ 3)) (by simp [Value.oneCell']) (by omega) (by unfold maxLen; omega) (by omega) (by first | omega | (simp; omega)) (wn.heap.size + 1) (by simp) ?_; intro g2 cap3 wm hown2 hgrow2 hat2 hlt3; have hC2 := (HC1.out.alloc _).grow (HV1.out.alloc _) hgrow2; have hS2 := (HO1.out.alloc _).kept hgrow2 HA1.out; have hA2 := (HA1.out.symm.grown (n := j + 1) (cap := cap3) (H := wn.heap.size + 1) (fun k hk => Nat.lt_of_lt_of_le (HO1.out.lt k hk).2 (by omega)) hat2).symm; have hKm := (HKN.out.alloc _).grown hgrow2 nk2; have v0 := hKm.cell (o := 0) rfl; have v1 := hKm.cell (o := 1) rfl; have v2 := hC2.out.cell (o := 2) rfl; have v3 := hC2.out.cell (o := 3) rfl; have fm := hC2.out.frozen; have HC2 := Lib.hid hC2; have HS2 := Lib.hid hS2; have HA2 := Lib.hid hA2; have HO2 := Lib.hid hown2; clear hC2 hS2 hA2 hKm hown2 hgrow2 hat2
                  refine hK.out _ _ ?_ (fun hHeld => ?_)
                  · first | exact ⟨x0, x1, z2, z3⟩ | go_keep | exact ⟨y0, y1, y2, y3⟩ | exact ⟨v0, v1, v2, v3⟩
                  clear hK K
                  (try simp only [Act.put, List.setIfInBounds_toArray, List.set_cons_zero, List.set_cons_succ])
                  refine wpAnyH_done (by kernel_rfl) ?_ _
                  show wpAny _ _ _ _ 3 _ _ _
                  refine wpAny_ready (rs := [13]) (by kernel_rfl) (by simp) ?_
                  refine AllReady.cons (o := { dst := none, op := Go.Op.store 25 (Go.Operand.tmp 71) (Go.Operand.tmp 64), type := 0, pos := "copies.go:112", after := #[{ on := 12, ground := Go.Ground.data }, { on := 5, ground := Go.Ground.data }, { on := 11, ground := Go.Ground.chain }, { on := 0, ground := Go.Ground.phase }, { on := 1, ground := Go.Ground.phase }, { on := 2, ground := Go.Ground.phase }, { on := 3, ground := Go.Ground.phase }, { on := 4, ground := Go.Ground.phase }, { on := 5, ground := Go.Ground.phase }, { on := 6, ground := Go.Ground.phase }, { on := 7, ground := Go.Ground.phase }, { on := 8, ground := Go.Ground.textOnly Go.Departure.lateStores }, { on := 9, ground := Go.Ground.textOnly Go.Departure.lateStores }, { on := 10, ground := Go.Ground.textOnly Go.Departure.lateStores }, { on := 11, ground := Go.Ground.textOnly Go.Departure.lateStoresUnsure }], guard := none }) rfl (fun K hK => ?_) ?_
                  · go_simp
                    refine hK _ _ ?_
                    clear hK K
                    (try simp only [Act.put, List.setIfInBounds_toArray, List.set_cons_zero, List.set_cons_succ])
                    refine wpAny_take (i := 14) (oi := { dst := some 72, op := Go.Op.fieldAddr 27 (Go.Operand.tmp 7) 3, type := 0, pos := "copies.go:112", after := #[{ on := 0, ground := Go.Ground.phase }, { on := 1, ground := Go.Ground.phase }, { on := 2, ground := Go.Ground.phase }, { on := 3, ground := Go.Ground.phase }, { on := 4, ground := Go.Ground.phase }, { on := 5, ground := Go.Ground.phase }, { on := 6, ground := Go.Ground.phase }, { on := 7, ground := Go.Ground.phase }, { on := 8, ground := Go.Ground.phase }, { on := 9, ground := Go.Ground.phase }, { on := 10, ground := Go.Ground.phase }, { on := 11, ground := Go.Ground.phase }, { on := 12, ground := Go.Ground.phase }, { on := 13, ground := Go.Ground.phase }], guard := none }) (v := ?_) rfl (by kernel_rfl) (by kernel_rfl) (by kernel_rfl) (fun _ _ _ h => h) (Or.inl ⟨by rfl, ?_⟩) ?_
                    rotate_left 1
                    · intro w; go_simp; try with_reducible rfl
                    (try simp only [Act.put, List.setIfInBounds_toArray, List.set_cons_zero, List.set_cons_succ])
                    refine wpAny_ready (rs := [15]) (by kernel_rfl) (by simp) ?_
                    refine AllReady.cons (o := { dst := none, op := Go.Op.store 25 (Go.Operand.tmp 72) (Go.Operand.tmp 70), type := 0, pos := "copies.go:112", after := #[{ on := 14, ground := Go.Ground.data }, { on := 11, ground := Go.Ground.data }, { on := 13, ground := Go.Ground.chain }, { on := 0, ground := Go.Ground.phase }, { on := 1, ground := Go.Ground.phase }, { on := 2, ground := Go.Ground.phase }, { on := 3, ground := Go.Ground.phase }, { on := 4, ground := Go.Ground.phase }, { on := 5, ground := Go.Ground.phase }, { on := 6, ground := Go.Ground.phase }, { on := 7, ground := Go.Ground.phase }, { on := 8, ground := Go.Ground.phase }, { on := 9, ground := Go.Ground.phase }, { on := 10, ground := Go.Ground.phase }, { on := 11, ground := Go.Ground.phase }, { on := 12, ground := Go.Ground.phase }, { on := 13, ground := Go.Ground.phase }], guard := none }) rfl (fun K hK => ?_) ?_
                    · go_simp
                      refine hK _ _ ?_
                      clear hK K
                      (try simp only [Act.put, List.setIfInBounds_toArray, List.set_cons_zero, List.set_cons_succ])
                      refine wpAny_done (by kernel_rfl) ?_ _
                      go_wp2
                      go_roundw
                      case rel => exact ⟨j + 1, by omega, by go_num, inv2_step HKK.out HC2.out HS2.out HO2.out HA2.out⟩
                      case measure => simp [intOf]; omega
                    exact AllReady.nil
                  exact AllReady.nil
                exact AllReadyH.nil
              exact AllReadyH.nil
            refine AllReadyH.cons (o := { dst := some 69, op := Go.Op.buildSlice 25 1 #[(0, Go.Operand.tmp 68)], type := 25, pos := "copies.go:112", after := #[{ on := 9, ground := Go.Ground.data }], guard := none }) rfl (fun K hK => ?_) ?_
            · go_simp
              refine hK.out _ _ ?_ (fun hHeld => ?_)
              · first | exact ⟨x0, x1, z2, z3⟩ | go_keep | exact ⟨y0, y1, y2, y3⟩ | exact ⟨v0, v1, v2, v3⟩
              clear hK K
              (try simp only [Act.put, List.setIfInBounds_toArray, List.set_cons_zero, List.set_cons_succ])
              refine wpAnyH_ready (rs := [5]) (by kernel_rfl) (by simp) ?_
              refine AllReadyH.cons (o := { dst := some 64, op := Go.Op.call { callee := Go.Callee.builtin Go.Builtin.append, args := #[Go.Operand.tmp 60, Go.Operand.tmp 63], argTypes := #[25, 25] }, type := 25, pos := "copies.go:112", after := #[{ on := 1, ground := Go.Ground.data }, { on := 4, ground := Go.Ground.data }], guard := none }) rfl (fun K hK => ?_) ?_
              · refine step_append_lies _ (by rfl) _ _ _ (by rfl) B 3 i0 _ 1 8 Try.underlying25 hi0 hz0 hz1 hz2 rfl (by omega) (.slice sa j sc) j _ (by rfl) (((HS.out.alloc _).alloc _).drew) ⟨w5.heap.size, 0, none⟩ 1 1 [.int .i64 kk.stamp] (by rfl) (by rfl) (World.news_of_block (cs := #[.int .i64 kk.stamp]) (t := 3) (fr := (0, 0)) (((Blk.new w5 _ 3).alloc _).drew)) (by simp [Value.oneCell']) (by omega) (by unfold maxLen; omega) (by omega) (by first | omega | (simp; omega)) (w5.heap.size + 1 + 1) (by simp) ?_; intro g1 cap1 wn hown1 hgrow hat hlt1; have hC1 := ((HC.out.alloc _).alloc _).drew.grow (((HS.out.alloc _).alloc _).drew) hgrow; have hV1 := (((HV.out.alloc _).alloc _).drew).kept hgrow HA.out.symm; have hA1 : Apart (.slice (some ⟨g1, 0, none⟩) (j + 1) cap1) (.slice va j vc) := HA.out.grown (H := w5.heap.size + 1 + 1) (fun k hk => Nat.lt_of_lt_of_le (HV.out.lt k hk).2 (by omega)) hat; have hKn := (((HK.out.alloc _).alloc _).drew).grown hgrow nk1; have y0 := hKn.cell (o := 0) rfl; have y1 := hKn.cell (o := 1) rfl; have y2 := hC1.out.cell (o := 2) rfl; have y3 := hC1.out.cell (o := 3) rfl; have hs1 := hC1.lt; have hs2 := hKn.lt; have hN : Blk wn (w5.heap.size + 1) [.int .i64 kk.val] 3 := (by have q := Blk.new (w5.alloc (.cells [.int .i64 kk.stamp].toArray 3 (0, 0))) [.int .i64 kk.val] 3; rw [World.size_alloc] at q; exact (Blk.drew q).grown hgrow (fun e => by have := (HS.out.lt _ e).2; omega)); have HN := Lib.hid hN; clear hN; have HC1 := Lib.hid hC1; have HV1 := Lib.hid hV1; have HA1 := Lib.hid hA1; have HKN := Lib.hid hKn; have HO1 := Lib.hid hown1; have HG1 := Lib.hid hgrow; have HT1 := Lib.hid hat; clear hC1 hV1 hA1 hKn hown1 hgrow hat
                refine hK.out _ _ ?_ (fun hHeld => ?_)
                · first | exact ⟨x0, x1, z2, z3⟩ | go_keep | exact ⟨y0, y1, y2, y3⟩ | exact ⟨v0, v1, v2, v3⟩
                clear hK K
                (try simp only [Act.put, List.setIfInBounds_toArray, List.set_cons_zero, List.set_cons_succ])
                refine wpAnyH_take (i := 12) (oi := { dst := some 71, op := Go.Op.fieldAddr 27 (Go.Operand.tmp 7) 2, type := 0, pos := "copies.go:112", after := #[{ on := 0, ground := Go.Ground.phase }, { on := 1, ground := Go.Ground.phase }, { on := 2, ground := Go.Ground.phase }, { on := 3, ground := Go.Ground.phase }, { on := 4, ground := Go.Ground.phase }, { on := 5, ground := Go.Ground.phase }, { on := 6, ground := Go.Ground.phase }, { on := 7, ground := Go.Ground.phase }, { on := 8, ground := Go.Ground.textOnly Go.Departure.lateStores }, { on := 9, ground := Go.Ground.textOnly Go.Departure.lateStores }, { on := 10, ground := Go.Ground.textOnly Go.Departure.lateStores }, { on := 11, ground := Go.Ground.textOnly Go.Departure.lateStoresUnsure }], guard := none }) (v := ?_) rfl (by kernel_rfl) (by kernel_rfl) (by kernel_rfl) (fun _ _ _ h => h) (Or.inl ⟨by rfl, ?_⟩) (by assumption) ?_
                rotate_left 1
                · intro w hSw; (try dsimp only at hSw); go_simp; try with_reducible rfl
                (try simp only [Act.put, List.setIfInBounds_toArray, List.set_cons_zero, List.set_cons_succ])
                refine wpAnyH_ready (rs := [11]) (by kernel_rfl) (by simp) ?_
                refine AllReadyH.cons (o := { dst := some 70, op := Go.Op.call { callee := Go.Callee.builtin Go.Builtin.append, args := #[Go.Operand.tmp 66, Go.Operand.tmp 69], argTypes := #[25, 25] }, type := 25, pos := "copies.go:112", after := #[{ on := 7, ground := Go.Ground.data }, { on := 10, ground := Go.Ground.data }, { on := 5, ground := Go.Ground.chain }], guard := none }) rfl (fun K hK => ?_) ?_
                · refine step_append_lies _ (by rfl) _ _ _ (by rfl) B 3 i0 _ 1 8 Try.underlying25 hi0 hz0 hz1 hz2 rfl (by omega) (.slice va j vc) j _ (by rfl) HV1.out ⟨w5.heap.size + 1, 0, none⟩ 1 1 [.int .i64 kk.val] (by rfl) (by rfl) (World.news_of_block (cs := #[.int .i64 kk.val]) (t := 3) (fr := (0, 0)) HN.out) (by simp [Value.oneCell']) (by omega) (by unfold maxLen; omega) (by omega) (by first | omega | (simp; omega)) (wn.heap.size) (by simp) ?_; intro g2 cap3 wm hown2 hgrow2 hat2 hlt3; have hC2 := HC1.out.grow HV1.out hgrow2; have hS2 := HO1.out.kept hgrow2 HA1.out; have hA2 := (HA1.out.symm.grown (n := j + 1) (cap := cap3) (H := wn.heap.size) (fun k hk => Nat.lt_of_lt_of_le (HO1.out.lt k hk).2 (by omega)) hat2).symm; have hKm := HKN.out.grown hgrow2 nk2; have v0 := hKm.cell (o := 0) rfl; have v1 := hKm.cell (o := 1) rfl; have v2 := hC2.out.cell (o := 2) rfl; have v3 := hC2.out.cell (o := 3) rfl; have fm := hC2.out.frozen; have HC2 := Lib.hid hC2; have HS2 := Lib.hid hS2; have HA2 := Lib.hid hA2; have HO2 := Lib.hid hown2; clear hC2 hS2 hA2 hKm hown2 hgrow2 hat2
                  refine hK.out _ _ ?_ (fun hHeld => ?_)
                  · first | exact ⟨x0, x1, z2, z3⟩ | go_keep | exact ⟨y0, y1, y2, y3⟩ | exact ⟨v0, v1, v2, v3⟩
                  clear hK K
                  (try simp only [Act.put, List.setIfInBounds_toArray, List.set_cons_zero, List.set_cons_succ])
                  refine wpAnyH_done (by kernel_rfl) ?_ _
                  show wpAny _ _ _ _ 3 _ _ _
                  refine wpAny_ready (rs := [13]) (by kernel_rfl) (by simp) ?_
                  refine AllReady.cons (o := { dst := none, op := Go.Op.store 25 (Go.Operand.tmp 71) (Go.Operand.tmp 64), type := 0, pos := "copies.go:112", after := #[{ on := 12, ground := Go.Ground.data }, { on := 5, ground := Go.Ground.data }, { on := 11, ground := Go.Ground.chain }, { on := 0, ground := Go.Ground.phase }, { on := 1, ground := Go.Ground.phase }, { on := 2, ground := Go.Ground.phase }, { on := 3, ground := Go.Ground.phase }, { on := 4, ground := Go.Ground.phase }, { on := 5, ground := Go.Ground.phase }, { on := 6, ground := Go.Ground.phase }, { on := 7, ground := Go.Ground.phase }, { on := 8, ground := Go.Ground.textOnly Go.Departure.lateStores }, { on := 9, ground := Go.Ground.textOnly Go.Departure.lateStores }, { on := 10, ground := Go.Ground.textOnly Go.Departure.lateStores }, { on := 11, ground := Go.Ground.textOnly Go.Departure.lateStoresUnsure }], guard := none }) rfl (fun K hK => ?_) ?_
                  · go_simp
                    refine hK _ _ ?_
                    clear hK K
                    (try simp only [Act.put, List.setIfInBounds_toArray, List.set_cons_zero, List.set_cons_succ])
                    refine wpAny_take (i := 14) (oi := { dst := some 72, op := Go.Op.fieldAddr 27 (Go.Operand.tmp 7) 3, type := 0, pos := "copies.go:112", after := #[{ on := 0, ground := Go.Ground.phase }, { on := 1, ground := Go.Ground.phase }, { on := 2, ground := Go.Ground.phase }, { on := 3, ground := Go.Ground.phase }, { on := 4, ground := Go.Ground.phase }, { on := 5, ground := Go.Ground.phase }, { on := 6, ground := Go.Ground.phase }, { on := 7, ground := Go.Ground.phase }, { on := 8, ground := Go.Ground.phase }, { on := 9, ground := Go.Ground.phase }, { on := 10, ground := Go.Ground.phase }, { on := 11, ground := Go.Ground.phase }, { on := 12, ground := Go.Ground.phase }, { on := 13, ground := Go.Ground.phase }], guard := none }) (v := ?_) rfl (by kernel_rfl) (by kernel_rfl) (by kernel_rfl) (fun _ _ _ h => h) (Or.inl ⟨by rfl, ?_⟩) ?_
                    rotate_left 1
                    · intro w; go_simp; try with_reducible rfl
                    (try simp only [Act.put, List.setIfInBounds_toArray, List.set_cons_zero, List.set_cons_succ])
                    refine wpAny_ready (rs := [15]) (by kernel_rfl) (by simp) ?_
                    refine AllReady.cons (o := { dst := none, op := Go.Op.store 25 (Go.Operand.tmp 72) (Go.Operand.tmp 70), type := 0, pos := "copies.go:112", after := #[{ on := 14, ground := Go.Ground.data }, { on := 11, ground := Go.Ground.data }, { on := 13, ground := Go.Ground.chain }, { on := 0, ground := Go.Ground.phase }, { on := 1, ground := Go.Ground.phase }, { on := 2, ground := Go.Ground.phase }, { on := 3, ground := Go.Ground.phase }, { on := 4, ground := Go.Ground.phase }, { on := 5, ground := Go.Ground.phase }, { on := 6, ground := Go.Ground.phase }, { on := 7, ground := Go.Ground.phase }, { on := 8, ground := Go.Ground.phase }, { on := 9, ground := Go.Ground.phase }, { on := 10, ground := Go.Ground.phase }, { on := 11, ground := Go.Ground.phase }, { on := 12, ground := Go.Ground.phase }, { on := 13, ground := Go.Ground.phase }], guard := none }) rfl (fun K hK => ?_) ?_
                    · go_simp
                      refine hK _ _ ?_
                      clear hK K
                      (try simp only [Act.put, List.setIfInBounds_toArray, List.set_cons_zero, List.set_cons_succ])
                      refine wpAny_done (by kernel_rfl) ?_ _
                      go_wp2
                      go_roundw
                      case rel => exact ⟨j + 1, by omega, by go_num, inv2_step HKK.out HC2.out HS2.out HO2.out HA2.out⟩
                      case measure => simp [intOf]; omega
                    exact AllReady.nil
                  exact AllReady.nil
                exact AllReadyH.nil
              exact AllReadyH.nil
            exact AllReadyH.nil
          refine AllReadyH.cons (o := { dst := some 69, op := Go.Op.buildSlice 25 1 #[(0, Go.Operand.tmp 68)], type := 25, pos := "copies.go:112", after := #[{ on := 9, ground := Go.Ground.data }], guard := none }) rfl (fun K hK => ?_) ?_
          · go_simp
            refine hK.out _ _ ?_ (fun hHeld => ?_)
            · first | exact ⟨x0, x1, z2, z3⟩ | go_keep | exact ⟨y0, y1, y2, y3⟩ | exact ⟨v0, v1, v2, v3⟩
            clear hK K
            (try simp only [Act.put, List.setIfInBounds_toArray, List.set_cons_zero, List.set_cons_succ])
            refine wpAnyH_ready (rs := [4]) (by kernel_rfl) (by simp) ?_
            refine AllReadyH.cons (o := { dst := some 63, op := Go.Op.buildSlice 25 1 #[(0, Go.Operand.tmp 62)], type := 25, pos := "copies.go:112", after := #[{ on := 3, ground := Go.Ground.data }], guard := none }) rfl (fun K hK => ?_) ?_
            · go_simp
              refine hK.out _ _ ?_ (fun hHeld => ?_)
              · first | exact ⟨x0, x1, z2, z3⟩ | go_keep | exact ⟨y0, y1, y2, y3⟩ | exact ⟨v0, v1, v2, v3⟩
              clear hK K
              (try simp only [Act.put, List.setIfInBounds_toArray, List.set_cons_zero, List.set_cons_succ])
              refine wpAnyH_ready (rs := [5]) (by kernel_rfl) (by simp) ?_
              refine AllReadyH.cons (o := { dst := some 64, op := Go.Op.call { callee := Go.Callee.builtin Go.Builtin.append, args := #[Go.Operand.tmp 60, Go.Operand.tmp 63], argTypes := #[25, 25] }, type := 25, pos := "copies.go:112", after := #[{ on := 1, ground := Go.Ground.data }, { on := 4, ground := Go.Ground.data }], guard := none }) rfl (fun K hK => ?_) ?_
              · refine step_append_lies _ (by rfl) _ _ _ (by rfl) B 3 i0 _ 1 8 Try.underlying25 hi0 hz0 hz1 hz2 rfl (by omega) (.slice sa j sc) j _ (by rfl) (((HS.out.alloc _).alloc _).drew) ⟨w5.heap.size + 1, 0, none⟩ 1 1 [.int .i64 kk.stamp] (by rfl) (by rfl) (World.news_of_block (cs := #[.int .i64 kk.stamp]) (t := 3) (fr := (0, 0)) (by have q := Blk.new (w5.alloc (.cells [.int .i64 kk.val].toArray 3 (0, 0))) [.int .i64 kk.stamp] 3; rw [World.size_alloc] at q; exact Blk.drew q)) (by simp [Value.oneCell']) (by omega) (by unfold maxLen; omega) (by omega) (by first | omega | (simp; omega)) (w5.heap.size + 1 + 1) (by simp) ?_; intro g1 cap1 wn hown1 hgrow hat hlt1; have hC1 := ((HC.out.alloc _).alloc _).drew.grow (((HS.out.alloc _).alloc _).drew) hgrow; have hV1 := (((HV.out.alloc _).alloc _).drew).kept hgrow HA.out.symm; have hA1 : Apart (.slice (some ⟨g1, 0, none⟩) (j + 1) cap1) (.slice va j vc) := HA.out.grown (H := w5.heap.size + 1 + 1) (fun k hk => Nat.lt_of_lt_of_le (HV.out.lt k hk).2 (by omega)) hat; have hKn := (((HK.out.alloc _).alloc _).drew).grown hgrow nk1; have y0 := hKn.cell (o := 0) rfl; have y1 := hKn.cell (o := 1) rfl; have y2 := hC1.out.cell (o := 2) rfl; have y3 := hC1.out.cell (o := 3) rfl; have hs1 := hC1.lt; have hs2 := hKn.lt; have hN : Blk wn w5.heap.size [.int .i64 kk.val] 3 := ((((Blk.new w5 [.int .i64 kk.val] 3).alloc _).drew).grown hgrow (fun e => by have := (HS.out.lt _ e).2; omega)); have HN := Lib.hid hN; clear hN; have HC1 := Lib.hid hC1; have HV1 := Lib.hid hV1; have HA1 := Lib.hid hA1; have HKN := Lib.hid hKn; have HO1 := Lib.hid hown1; have HG1 := Lib.hid hgrow; have HT1 := Lib.hid hat; clear hC1 hV1 hA1 hKn hown1 hgrow hat
                refine hK.out _ _ ?_ (fun hHeld => ?_)
                · first | exact ⟨x0, x1, z2, z3⟩ | go_keep | exact ⟨y0, y1, y2, y3⟩ | exact ⟨v0, v1, v2, v3⟩
                clear hK K
                (try simp only [Act.put, List.setIfInBounds_toArray, List.set_cons_zero, List.set_cons_succ])
                refine wpAnyH_take (i := 12) (oi := { dst := some 71, op := Go.Op.fieldAddr 27 (Go.Operand.tmp 7) 2, type := 0, pos := "copies.go:112", after := #[{ on := 0, ground := Go.Ground.phase }, { on := 1, ground := Go.Ground.phase }, { on := 2, ground := Go.Ground.phase }, { on := 3, ground := Go.Ground.phase }, { on := 4, ground := Go.Ground.phase }, { on := 5, ground := Go.Ground.phase }, { on := 6, ground := Go.Ground.phase }, { on := 7, ground := Go.Ground.phase }, { on := 8, ground := Go.Ground.textOnly Go.Departure.lateStores }, { on := 9, ground := Go.Ground.textOnly Go.Departure.lateStores }, { on := 10, ground := Go.Ground.textOnly Go.Departure.lateStores }, { on := 11, ground := Go.Ground.textOnly Go.Departure.lateStoresUnsure }], guard := none }) (v := ?_) rfl (by kernel_rfl) (by kernel_rfl) (by kernel_rfl) (fun _ _ _ h => h) (Or.inl ⟨by rfl, ?_⟩) (by assumption) ?_
                rotate_left 1
                · intro w hSw; (try dsimp only at hSw); go_simp; try with_reducible rfl
                (try simp only [Act.put, List.setIfInBounds_toArray, List.set_cons_zero, List.set_cons_succ])
                refine wpAnyH_ready (rs := [11]) (by kernel_rfl) (by simp) ?_
                refine AllReadyH.cons (o := { dst := some 70, op := Go.Op.call { callee := Go.Callee.builtin Go.Builtin.append, args := #[Go.Operand.tmp 66, Go.Operand.tmp 69], argTypes := #[25, 25] }, type := 25, pos := "copies.go:112", after := #[{ on := 7, ground := Go.Ground.data }, { on := 10, ground := Go.Ground.data }, { on := 5, ground := Go.Ground.chain }], guard := none }) rfl (fun K hK => ?_) ?_
                · refine step_append_lies _ (by rfl) _ _ _ (by rfl) B 3 i0 _ 1 8 Try.underlying25 hi0 hz0 hz1 hz2 rfl (by omega) (.slice va j vc) j _ (by rfl) HV1.out ⟨w5.heap.size, 0, none⟩ 1 1 [.int .i64 kk.val] (by rfl) (by rfl) (World.news_of_block (cs := #[.int .i64 kk.val]) (t := 3) (fr := (0, 0)) HN.out) (by simp [Value.oneCell']) (by omega) (by unfold maxLen; omega) (by omega) (by first | omega | (simp; omega)) (wn.heap.size) (by simp) ?_; intro g2 cap3 wm hown2 hgrow2 hat2 hlt3; have hC2 := HC1.out.grow HV1.out hgrow2; have hS2 := HO1.out.kept hgrow2 HA1.out; have hA2 := (HA1.out.symm.grown (n := j + 1) (cap := cap3) (H := wn.heap.size) (fun k hk => Nat.lt_of_lt_of_le (HO1.out.lt k hk).2 (by omega)) hat2).symm; have hKm := HKN.out.grown hgrow2 nk2; have v0 := hKm.cell (o := 0) rfl; have v1 := hKm.cell (o := 1) rfl; have v2 := hC2.out.cell (o := 2) rfl; have v3 := hC2.out.cell (o := 3) rfl; have fm := hC2.out.frozen; have HC2 := Lib.hid hC2; have HS2 := Lib.hid hS2; have HA2 := Lib.hid hA2; have HO2 := Lib.hid hown2; clear hC2 hS2 hA2 hKm hown2 hgrow2 hat2
                  refine hK.out _ _ ?_ (fun hHeld => ?_)
                  · first | exact ⟨x0, x1, z2, z3⟩ | go_keep | exact ⟨y0, y1, y2, y3⟩ | exact ⟨v0, v1, v2, v3⟩
                  clear hK K
                  (try simp only [Act.put, List.setIfInBounds_toArray, List.set_cons_zero, List.set_cons_succ])
                  refine wpAnyH_done (by kernel_rfl) ?_ _
                  show wpAny _ _ _ _ 3 _ _ _
                  refine wpAny_ready (rs := [13]) (by kernel_rfl) (by simp) ?_
                  refine AllReady.cons (o := { dst := none, op := Go.Op.store 25 (Go.Operand.tmp 71) (Go.Operand.tmp 64), type := 0, pos := "copies.go:112", after := #[{ on := 12, ground := Go.Ground.data }, { on := 5, ground := Go.Ground.data }, { on := 11, ground := Go.Ground.chain }, { on := 0, ground := Go.Ground.phase }, { on := 1, ground := Go.Ground.phase }, { on := 2, ground := Go.Ground.phase }, { on := 3, ground := Go.Ground.phase }, { on := 4, ground := Go.Ground.phase }, { on := 5, ground := Go.Ground.phase }, { on := 6, ground := Go.Ground.phase }, { on := 7, ground := Go.Ground.phase }, { on := 8, ground := Go.Ground.textOnly Go.Departure.lateStores }, { on := 9, ground := Go.Ground.textOnly Go.Departure.lateStores }, { on := 10, ground := Go.Ground.textOnly Go.Departure.lateStores }, { on := 11, ground := Go.Ground.textOnly Go.Departure.lateStoresUnsure }], guard := none }) rfl (fun K hK => ?_) ?_
                  · go_simp
                    refine hK _ _ ?_
                    clear hK K
                    (try simp only [Act.put, List.setIfInBounds_toArray, List.set_cons_zero, List.set_cons_succ])
                    refine wpAny_take (i := 14) (oi := { dst := some 72, op := Go.Op.fieldAddr 27 (Go.Operand.tmp 7) 3, type := 0, pos := "copies.go:112", after := #[{ on := 0, ground := Go.Ground.phase }, { on := 1, ground := Go.Ground.phase }, { on := 2, ground := Go.Ground.phase }, { on := 3, ground := Go.Ground.phase }, { on := 4, ground := Go.Ground.phase }, { on := 5, ground := Go.Ground.phase }, { on := 6, ground := Go.Ground.phase }, { on := 7, ground := Go.Ground.phase }, { on := 8, ground := Go.Ground.phase }, { on := 9, ground := Go.Ground.phase }, { on := 10, ground := Go.Ground.phase }, { on := 11, ground := Go.Ground.phase }, { on := 12, ground := Go.Ground.phase }, { on := 13, ground := Go.Ground.phase }], guard := none }) (v := ?_) rfl (by kernel_rfl) (by kernel_rfl) (by kernel_rfl) (fun _ _ _ h => h) (Or.inl ⟨by rfl, ?_⟩) ?_
                    rotate_left 1
                    · intro w; go_simp; try with_reducible rfl
                    (try simp only [Act.put, List.setIfInBounds_toArray, List.set_cons_zero, List.set_cons_succ])
                    refine wpAny_ready (rs := [15]) (by kernel_rfl) (by simp) ?_
                    refine AllReady.cons (o := { dst := none, op := Go.Op.store 25 (Go.Operand.tmp 72) (Go.Operand.tmp 70), type := 0, pos := "copies.go:112", after := #[{ on := 14, ground := Go.Ground.data }, { on := 11, ground := Go.Ground.data }, { on := 13, ground := Go.Ground.chain }, { on := 0, ground := Go.Ground.phase }, { on := 1, ground := Go.Ground.phase }, { on := 2, ground := Go.Ground.phase }, { on := 3, ground := Go.Ground.phase }, { on := 4, ground := Go.Ground.phase }, { on := 5, ground := Go.Ground.phase }, { on := 6, ground := Go.Ground.phase }, { on := 7, ground := Go.Ground.phase }, { on := 8, ground := Go.Ground.phase }, { on := 9, ground := Go.Ground.phase }, { on := 10, ground := Go.Ground.phase }, { on := 11, ground := Go.Ground.phase }, { on := 12, ground := Go.Ground.phase }, { on := 13, ground := Go.Ground.phase }], guard := none }) rfl (fun K hK => ?_) ?_
                    · go_simp
                      refine hK _ _ ?_
                      clear hK K
                      (try simp only [Act.put, List.setIfInBounds_toArray, List.set_cons_zero, List.set_cons_succ])
                      refine wpAny_done (by kernel_rfl) ?_ _
                      go_wp2
                      go_roundw
                      case rel => exact ⟨j + 1, by omega, by go_num, inv2_step HKK.out HC2.out HS2.out HO2.out HA2.out⟩
                      case measure => simp [intOf]; omega
                    exact AllReady.nil
                  exact AllReady.nil
                exact AllReadyH.nil
              exact AllReadyH.nil
            exact AllReadyH.nil
          exact AllReadyH.nil
        · have hjn : j = n := by omega
          subst hjn
          have y0 := hCo.out.cell (o := 0) rfl
          have y1 := hCo.out.cell (o := 1) rfl
          have y2 := hCo.out.cell (o := 2) rfl
          have y3 := hCo.out.cell (o := 3) rfl
          have q0 := hCo.res.cell (o := 0) rfl
          have q1 := hCo.res.cell (o := 1) rfl
          have q2 := hCo.res.cell (o := 2) rfl
          have q3 := hCo.res.cell (o := 3) rfl
          have fq := hCo.res.frozen
          have HC := Lib.hid hCo
          have HS := Lib.hid hS
          have HV := Lib.hid hV
          clear hCo hS hV hA
          go_wp2
          refine bodyPost_ret (v := .tuple #[.agg #[.slice ca L.length cc, .slice oa sF.ops.length oc, .slice sa j sc, .slice va j vc], .int .i64 0]) ?_ rfl ⟨_, _, _, _, rfl, ?_⟩
          · simp [results, Try.results4, go_sem, q0, q1, q2, q3]
          · rw [HRR.out, HB.out]
            exact fin_res hcl hln HC.out HS.out HV.out _ _ _ _
end Go.Proofs.Ytbibibpliahclaa.Cp
