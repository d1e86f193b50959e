/-
  How the memory holds the copies' state.
-/
import Derived.Test.YtbibibpliahclaaMem
import Derived.Test.YtbibibpliahclaaModel
import Derived.Deep.QuietTactic
import Derived.BigQuiet
import Derived.BigRegion
namespace Go.Proofs.Ytbibibpliahclaa.Cp
open Go Go.RowKit Mem

def ClCells (c : Cl) : List Value := [.int .i64 c.part, .int .i64 c.beg, .bool c.wr, .int .i64 c.val, .int .u32 c.reached, .int .i64 c.many, .int .i64 c.bs, .int .i64 c.bv]
def KeptCells (k : Kept) : List Value := [.int .i64 k.stamp, .int .i64 k.val]
def OpCells (o : Op) : List Value := [.int .i64 o.frm, .int .i64 o.beg, .int .i64 o.fin, .bool o.wr, .int .i64 o.val]
theorem ClCells_len (c : Cl) : (ClCells c).length = 8 := rfl
theorem KeptCells_len (c : Kept) : (KeptCells c).length = 2 := rfl
theorem OpCells_len (c : Op) : (OpCells c).length = 5 := rfl

def AllL (bl : Nat) (s : St) (ov : Value) : List Value :=
  .slice (some ⟨bl, 0, none⟩) s.l.length s.l.length :: .int .u32 s.failed :: (s.cl.flatMap ClCells ++ [ov])

structure Rep (B ba bl : Nat) (ov : Value) (s : St) (w : World) : Prop where
  all : Blk w ba (AllL bl s ov) 48
  kept : Blk w bl (s.l.flatMap KeptCells) 43
  ops : w.ownsRow B 35 5 ov s.ops.length (s.ops.flatMap OpCells)
  loa : B ≤ ba
  lol : B ≤ bl
  six : s.cl.length = 6

/-- of what was there only the two blocks and the row of what was done may have turned -/
structure Fr (ba bl : Nat) (ov : Value) (w w' : World) : Prop where
  os : w'.os = w.os
  tape : w'.tape = w.tape
  output : w'.output = w.output
  size : w.heap.size ≤ w'.heap.size
  block : ∀ k, k < w.heap.size → k ≠ ba → k ≠ bl → ov.ownBlock ≠ some k → w'.heap[k]? = w.heap[k]?
/-- the row of what was done is the elder one, or a new one -/
def Lat (w : World) (ov ov' : Value) : Prop := ∀ k, k < w.heap.size → ov'.ownBlock = some k → ov.ownBlock = some k
theorem Lat.refl (w : World) (ov : Value) : Lat w ov ov := fun _ _ h => h
theorem Fr.refl (ba bl : Nat) (ov : Value) (w : World) : Fr ba bl ov w w := ⟨rfl, rfl, rfl, Nat.le_refl _, fun _ _ _ _ _ => rfl⟩
theorem Fr.step {ba bl : Nat} {ov : Value} {w w' w'' : World} (h : Fr ba bl ov w w') (h1 : w''.os = w'.os) (h2 : w''.tape = w'.tape) (h3 : w''.output = w'.output) (h4 : w'.heap.size ≤ w''.heap.size)
    (h5 : ∀ k, k < w'.heap.size → k ≠ ba → k ≠ bl → ov.ownBlock ≠ some k → w''.heap[k]? = w'.heap[k]?) : Fr ba bl ov w w'' :=
  ⟨h1.trans h.os, h2.trans h.tape, h3.trans h.output, Nat.le_trans h.size h4, fun k hk ha hl ho => (h5 k (Nat.lt_of_lt_of_le hk h.size) ha hl ho).trans (h.block k hk ha hl ho)⟩
theorem Fr.drewN {ba bl : Nat} {ov : Value} {w w' : World} (h : Fr ba bl ov w w') (n : Nat) : Fr ba bl ov w (w'.drewN n) := h.step rfl rfl rfl (Nat.le_refl _) fun _ _ _ _ _ => rfl
theorem Fr.drew {ba bl : Nat} {ov : Value} {w w' : World} (h : Fr ba bl ov w w') : Fr ba bl ov w w'.drew := h.step rfl rfl rfl (Nat.le_refl _) fun _ _ _ _ _ => rfl
theorem Fr.alloc {ba bl : Nat} {ov : Value} {w w' : World} (h : Fr ba bl ov w w') (o : Obj) : Fr ba bl ov w (w'.alloc o) := h.step rfl rfl rfl (by simp) fun k hk _ _ _ => Below.heap_alloc _ _ _ hk
theorem Fr.setA {ba bl : Nat} {ov : Value} {w w' : World} (h : Fr ba bl ov w w') (o : Nat) (v : Value) : Fr ba bl ov w (w'.setCell ⟨ba, o, none⟩ v) := h.step rfl rfl rfl (by simp) fun k _ ha _ _ => Below.heap_setCell _ _ _ _ ha
theorem Fr.setL {ba bl : Nat} {ov : Value} {w w' : World} (h : Fr ba bl ov w w') (o : Nat) (v : Value) : Fr ba bl ov w (w'.setCell ⟨bl, o, none⟩ v) := h.step rfl rfl rfl (by simp) fun k _ _ hl _ => Below.heap_setCell _ _ _ _ hl
theorem Fr.later {ba bl : Nat} {ov : Value} {w w' w'' : World} (h : Fr ba bl ov w w') (hb : Below w'.heap.size w' w'') : Fr ba bl ov w w'' := h.step hb.os hb.tape hb.output hb.size fun k hk _ _ _ => hb.block k hk
theorem Fr.trans {ba bl : Nat} {ov ov' : Value} {w w' w'' : World} (h : Fr ba bl ov w w') (hl : Lat w ov ov') (h' : Fr ba bl ov' w' w'') : Fr ba bl ov w w'' :=
  ⟨h'.os.trans h.os, h'.tape.trans h.tape, h'.output.trans h.output, Nat.le_trans h.size h'.size, fun k hk ha hl' ho =>
    (h'.block k (Nat.lt_of_lt_of_le hk h.size) ha hl' (fun e => ho (hl k hk e))).trans (h.block k hk ha hl' ho)⟩
theorem Lat.trans {w w' : World} {ov ov' ov'' : Value} (h : Lat w ov ov') (h' : Lat w' ov' ov'') (hs : w.heap.size ≤ w'.heap.size) : Lat w ov ov'' :=
  fun k hk e => h k hk (h' k (Nat.lt_of_lt_of_le hk hs) e)

theorem Rep.ne {B ba bl : Nat} {ov : Value} {s : St} {w : World} (h : Rep B ba bl ov s w) : ba ≠ bl := by
  intro e; have h1 := h.all; rw [e] at h1; exact absurd (h1.inj h.kept) (by decide)
theorem Rep.opsA {B ba bl : Nat} {ov : Value} {s : St} {w : World} (h : Rep B ba bl ov s w) : ov.ownBlock ≠ some ba := by
  intro e
  rcases h.ops.2 with ⟨h1, _⟩ | ⟨g, cap, cur, h1, _, hg, _⟩
  · subst h1; simp [Value.ownBlock] at e
  · subst h1
    simp [Value.ownBlock] at e
    subst e
    have := h.all
    unfold Blk at this
    rw [hg] at this
    simp at this
theorem Rep.opsL {B ba bl : Nat} {ov : Value} {s : St} {w : World} (h : Rep B ba bl ov s w) : ov.ownBlock ≠ some bl := by
  intro e
  rcases h.ops.2 with ⟨h1, _⟩ | ⟨g, cap, cur, h1, _, hg, _⟩
  · subst h1; simp [Value.ownBlock] at e
  · subst h1
    simp [Value.ownBlock] at e
    subst e
    have := h.kept
    unfold Blk at this
    rw [hg] at this
    simp at this

theorem AllL_cl (bl : Nat) (s : St) (ov : Value) (i j : Nat) (c : Cl) (hc : s.cl[i]? = some c) (hj : j < 8) :
    (AllL bl s ov)[2 + i * 8 + j]? = (ClCells c)[j]? := by
  have hi : i < s.cl.length := (List.getElem?_eq_some_iff.1 hc).1
  unfold AllL
  rw [show 2 + i * 8 + j = (i * 8 + j) + 1 + 1 by omega, List.getElem?_cons_succ, List.getElem?_cons_succ,
    List.getElem?_append_left (by rw [flat_len ClCells 8 ClCells_len]; omega), flat_get ClCells 8 ClCells_len _ _ _ c hc hj]
theorem AllL_set (bl : Nat) (s : St) (ov : Value) (i j : Nat) (c c' : Cl) (v : Value) (hc : s.cl[i]? = some c) (hj : j < 8) (he : ClCells c' = (ClCells c).set j v) :
    (AllL bl s ov).set (2 + i * 8 + j) v = AllL bl (putc s i c') ov := by
  have hi : i < s.cl.length := (List.getElem?_eq_some_iff.1 hc).1
  unfold AllL
  rw [show 2 + i * 8 + j = (i * 8 + j) + 1 + 1 by omega, List.set_cons_succ, List.set_cons_succ,
    List.set_append_left _ _ (by rw [flat_len ClCells 8 ClCells_len]; omega), flat_set ClCells 8 ClCells_len _ _ _ c c' v hc hj he]
  rfl
theorem AllL_ops (bl : Nat) (s : St) (ov : Value) (h : s.cl.length = 6) : (AllL bl s ov)[50]? = some ov := by
  have := flat_len ClCells 8 ClCells_len s.cl
  unfold AllL
  rw [List.getElem?_cons_succ, List.getElem?_cons_succ, List.getElem?_append_right (by omega)]
  simp [this, h]
theorem AllL_setops (bl : Nat) (s : St) (ov v : Value) (h : s.cl.length = 6) : (AllL bl s ov).set 50 v = AllL bl s v := by
  have := flat_len ClCells 8 ClCells_len s.cl
  unfold AllL
  rw [List.set_cons_succ, List.set_cons_succ, List.set_append_right _ _ (by omega)]
  simp [this, h]

/-- the memory with client i's record being c -/
def RepC (B ba bl : Nat) (ov : Value) (s : St) (i : Nat) (c : Cl) (w : World) : Prop := i < 6 ∧ Rep B ba bl ov (putc s i c) w

theorem RepC.of {B ba bl : Nat} {ov : Value} {s : St} {i : Nat} {c : Cl} {w : World} (h : Rep B ba bl ov s w) (hc : s.cl[i]? = some c) : RepC B ba bl ov s i c w := by
  have hi : i < s.cl.length := (List.getElem?_eq_some_iff.1 hc).1
  have e : putc s i c = s := by
    have h2 : s.cl.set i c = s.cl := by
      have := List.getElem?_eq_some_iff.1 hc
      obtain ⟨h3, h4⟩ := this
      rw [← h4]; exact List.set_getElem_self h3
    unfold putc
    rw [h2]
  refine ⟨by have := h.six; omega, ?_⟩
  rw [e]; exact h
theorem RepC.at {B ba bl : Nat} {ov : Value} {s : St} {i : Nat} {c : Cl} {w : World} (h : RepC B ba bl ov s i c w) : (putc s i c).cl[i]? = some c := by
  have h6 : s.cl.length = 6 := by have := h.2.six; simpa [putc] using this
  have h1 := h.1
  show (s.cl.set i c)[i]? = some c
  rw [List.getElem?_set_self (by omega)]
theorem RepC.cell {B ba bl : Nat} {ov : Value} {s : St} {i : Nat} {c : Cl} {w : World} (h : RepC B ba bl ov s i c w) (j : Nat) (hj : j < 8) (v : Value) (hv : (ClCells c)[j]? = some v) :
    w.cell? ⟨ba, 2 + i * 8 + j, none⟩ = some v :=
  h.2.all.cell ((AllL_cl bl _ ov i j c h.at hj).trans hv)
theorem RepC.upd {B ba bl : Nat} {ov : Value} {s : St} {i : Nat} {c c' : Cl} {w : World} {v : Value} (h : RepC B ba bl ov s i c w) (j : Nat) (hj : j < 8) (he : ClCells c' = (ClCells c).set j v) :
    RepC B ba bl ov s i c' (w.setCell ⟨ba, 2 + i * 8 + j, none⟩ v) := by
  refine ⟨h.1, ?_⟩
  have hs := h.2.all.set (2 + i * 8 + j) v
  rw [AllL_set bl _ ov i j c c' v h.at hj he, putc_putc] at hs
  exact ⟨hs, h.2.kept.set_ne _ _ h.2.ne.symm, ownsRow_setCell_other h.2.ops h.2.opsA v, h.2.loa, h.2.lol, by have := h.2.six; simpa [putc] using this⟩
theorem Rep.kset {B ba bl : Nat} {ov : Value} {s : St} {w : World} (h : Rep B ba bl ov s w) (t j : Nat) (k k' : Kept) (v : Value) (hj : j < 2) (hk : s.l[t]? = some k) (he : KeptCells k' = (KeptCells k).set j v) :
    Rep B ba bl ov { s with l := s.l.set t k' } (w.setCell ⟨bl, t * 2 + j, none⟩ v) := by
  have hs := h.kept.set (t * 2 + j) v
  rw [flat_set KeptCells 2 KeptCells_len _ _ _ k k' v hk hj he] at hs
  have ha := h.all.set_ne ⟨bl, t * 2 + j, none⟩ v h.ne
  refine ⟨?_, hs, ownsRow_setCell_other h.ops h.opsL v, h.loa, h.lol, h.six⟩
  unfold AllL at ha ⊢
  simpa using ha
theorem Rep.kcell {B ba bl : Nat} {ov : Value} {s : St} {w : World} (h : Rep B ba bl ov s w) (t j : Nat) (k : Kept) (v : Value) (hj : j < 2) (hk : s.l[t]? = some k) (hv : (KeptCells k)[j]? = some v) :
    w.cell? ⟨bl, t * 2 + j, none⟩ = some v :=
  h.kept.cell ((flat_get KeptCells 2 KeptCells_len _ _ _ k hk hj).trans hv)
theorem RepC.kset2 {B ba bl : Nat} {ov : Value} {s : St} {i : Nat} {c : Cl} {w : World} (h : RepC B ba bl ov s i c w) (t : Nat) (k : Kept) (x y : Int) (hk : s.l[t]? = some k) :
    RepC B ba bl ov { s with l := s.l.set t ⟨x, y⟩ } i c ((w.setCell ⟨bl, t * 2, none⟩ (.int .i64 x)).setCell ⟨bl, t * 2 + 1, none⟩ (.int .i64 y)) := by
  refine ⟨h.1, ?_⟩
  have hlt : t < s.l.length := (List.getElem?_eq_some_iff.1 hk).1
  have h1 := h.2.kset t 0 k ⟨x, k.val⟩ (.int .i64 x) (by omega) hk rfl
  have h2 := h1.kset t 1 ⟨x, k.val⟩ ⟨x, y⟩ (.int .i64 y) (by omega) (by simp only [putc]; rw [List.getElem?_set_self hlt]) rfl
  simpa [putc] using h2
theorem RepC.facts {B ba bl : Nat} {ov : Value} {s : St} {i : Nat} {part beg : Int} {wr : Bool} {val : Int} {rd : Nat} {many bs bv : Int} {w : World} (h : RepC B ba bl ov s i ⟨part, beg, wr, val, rd, many, bs, bv⟩ w) :
    w.cell? ⟨ba, 2 + i * 8, none⟩ = some (.int .i64 part) ∧ w.cell? ⟨ba, 2 + i * 8 + 1, none⟩ = some (.int .i64 beg) ∧ w.cell? ⟨ba, 2 + i * 8 + 2, none⟩ = some (.bool wr) ∧
    w.cell? ⟨ba, 2 + i * 8 + 3, none⟩ = some (.int .i64 val) ∧ w.cell? ⟨ba, 2 + i * 8 + 4, none⟩ = some (.int .u32 rd) ∧ w.cell? ⟨ba, 2 + i * 8 + 5, none⟩ = some (.int .i64 many) ∧
    w.cell? ⟨ba, 2 + i * 8 + 6, none⟩ = some (.int .i64 bs) ∧ w.cell? ⟨ba, 2 + i * 8 + 7, none⟩ = some (.int .i64 bv) ∧
    w.cell? ⟨ba, 0, none⟩ = some (.slice (some ⟨bl, 0, none⟩) s.l.length s.l.length) ∧ w.cell? ⟨ba, 50, none⟩ = some ov ∧
    (∀ o, w.frozen? ⟨ba, o, none⟩ = false) ∧ (∀ o, w.frozen? ⟨bl, o, none⟩ = false) :=
  ⟨h.cell 0 (by omega) _ rfl, h.cell 1 (by omega) _ rfl, h.cell 2 (by omega) _ rfl, h.cell 3 (by omega) _ rfl, h.cell 4 (by omega) _ rfl, h.cell 5 (by omega) _ rfl, h.cell 6 (by omega) _ rfl,
    h.cell 7 (by omega) _ rfl, h.2.all.cell rfl, h.2.all.cell (AllL_ops bl _ ov h.2.six), h.2.all.frozen, h.2.kept.frozen⟩
theorem Rep.drewN {B ba bl : Nat} {ov : Value} {s : St} {w : World} (h : Rep B ba bl ov s w) (n : Nat) : Rep B ba bl ov s (w.drewN n) := ⟨h.all, h.kept, h.ops, h.loa, h.lol, h.six⟩
theorem RepC.drewN {B ba bl : Nat} {ov : Value} {s : St} {i : Nat} {c : Cl} {w : World} (h : RepC B ba bl ov s i c w) (n : Nat) : RepC B ba bl ov s i c (w.drewN n) := ⟨h.1, h.2.drewN n⟩
theorem Rep.drew {B ba bl : Nat} {ov : Value} {s : St} {w : World} (h : Rep B ba bl ov s w) : Rep B ba bl ov s w.drew := ⟨h.all, h.kept, h.ops, h.loa, h.lol, h.six⟩
theorem RepC.drew {B ba bl : Nat} {ov : Value} {s : St} {i : Nat} {c : Cl} {w : World} (h : RepC B ba bl ov s i c w) : RepC B ba bl ov s i c w.drew := ⟨h.1, h.2.drew⟩
/-- what is done is added: behind the append and the store of the new slice -/
theorem RepC.push {B ba bl : Nat} {ov : Value} {s : St} {i : Nat} {c : Cl} {w wn : World} {O : Obj} {gg cap n : Nat} {cells : List Value} (h : RepC B ba bl ov s i c w) (o : Op) (hn : n = s.ops.length) (hc : cells = s.ops.flatMap OpCells ++ OpCells o)
    (hown : wn.ownsRow B 35 5 (.slice (some ⟨gg, 0, none⟩) (n + 1) cap) (n + 1) cells) (hgrow : (w.alloc O).drew.grownBy wn ov.ownBlock) (hat : ov.ownBlock = some gg ∨ gg = w.heap.size + 1) :
    Rep B ba bl (.slice (some ⟨gg, 0, none⟩) (n + 1) cap) { putc s i c with ops := s.ops ++ [o] } (wn.setCell ⟨ba, 50, none⟩ (.slice (some ⟨gg, 0, none⟩) (n + 1) cap)) ∧
      Fr ba bl ov w (wn.setCell ⟨ba, 50, none⟩ (.slice (some ⟨gg, 0, none⟩) (n + 1) cap)) ∧ Lat w ov (.slice (some ⟨gg, 0, none⟩) (n + 1) cap) := by
  subst hn
  subst hc
  have hlA := h.2.all.lt
  have hlL := h.2.kept.lt
  have ga : wn.heap[ba]? = w.heap[ba]? := by
    rw [hgrow.block ba (by simp; omega) (Ne.symm h.2.opsA)]
    exact Below.heap_alloc _ _ _ hlA
  have gl : wn.heap[bl]? = w.heap[bl]? := by
    rw [hgrow.block bl (by simp; omega) (Ne.symm h.2.opsL)]
    exact Below.heap_alloc _ _ _ hlL
  have gne : gg ≠ ba := by
    rcases hat with e | e
    · intro e'; rw [e'] at e; exact h.2.opsA e
    · omega
  have hA := (h.2.all.of_block ga).set 50 (.slice (some ⟨gg, 0, none⟩) (s.ops.length + 1) cap)
  rw [AllL_setops bl _ ov _ h.2.six] at hA
  refine ⟨⟨hA, (h.2.kept.of_block gl).set_ne _ _ h.2.ne.symm, ?_, h.2.loa, h.2.lol, h.2.six⟩, ?_⟩
  · have := ownsRow_setCell_other hown (a := ⟨ba, 50, none⟩) (by simpa [Value.ownBlock] using gne) (.slice (some ⟨gg, 0, none⟩) (s.ops.length + 1) cap)
    simpa using this
  · refine ⟨?_, ?_⟩
    · refine Fr.setA ?_ 50 _
      have hb0 : Fr ba bl ov w (w.alloc O).drew := ((Fr.refl ba bl ov w).alloc O).drew
      exact hb0.step hgrow.os hgrow.tape hgrow.output hgrow.size fun k hk _ _ ho => hgrow.block k hk (Ne.symm ho)
    · intro k hk e
      rcases hat with e' | e'
      · rw [e']; simpa [Value.ownBlock] using e
      · simp [Value.ownBlock] at e; omega
theorem Rep.fset {B ba bl : Nat} {ov : Value} {s : St} {w : World} (h : Rep B ba bl ov s w) (x : Nat) :
    Rep B ba bl ov { s with failed := x } (w.setCell ⟨ba, 1, none⟩ (.int .u32 x)) := by
  have hs := h.all.set 1 (.int .u32 (x : Int))
  exact ⟨hs, h.kept.set_ne _ _ h.ne.symm, ownsRow_setCell_other h.ops h.opsA _, h.loa, h.lol, h.six⟩
/-- nothing that is there has turned -/
theorem Rep.later {B ba bl : Nat} {ov : Value} {s : St} {w w' : World} (h : Rep B ba bl ov s w) (hb : Below w.heap.size w w') : Rep B ba bl ov s w' :=
  ⟨h.all.below hb h.all.lt, h.kept.below hb h.kept.lt, h.ops.kept (row := none) ⟨hb.os, hb.tape, hb.output, hb.size, fun k hk _ => hb.block k hk⟩ (by cases ov.ownBlock <;> simp), h.loa, h.lol, h.six⟩
/-- a client begins anew: all its record is written -/
theorem RepC.all8 {B ba bl : Nat} {ov : Value} {s : St} {i : Nat} {c c' : Cl} {w : World} (h : RepC B ba bl ov s i c w) :
    RepC B ba bl ov s i c' ((((((((w.setCell ⟨ba, 2 + i * 8, none⟩ (.int .i64 c'.part)).setCell ⟨ba, 2 + i * 8 + 1, none⟩ (.int .i64 c'.beg)).setCell ⟨ba, 2 + i * 8 + 2, none⟩ (.bool c'.wr)).setCell
      ⟨ba, 2 + i * 8 + 3, none⟩ (.int .i64 c'.val)).setCell ⟨ba, 2 + i * 8 + 4, none⟩ (.int .u32 c'.reached)).setCell ⟨ba, 2 + i * 8 + 5, none⟩ (.int .i64 c'.many)).setCell
      ⟨ba, 2 + i * 8 + 6, none⟩ (.int .i64 c'.bs)).setCell ⟨ba, 2 + i * 8 + 7, none⟩ (.int .i64 c'.bv)) :=
  (((((((h.upd (c' := { c with part := c'.part }) 0 (by omega) rfl).upd (c' := { c with part := c'.part, beg := c'.beg }) 1 (by omega) rfl).upd (c' := { c with part := c'.part, beg := c'.beg, wr := c'.wr }) 2 (by omega) rfl).upd
    (c' := { c with part := c'.part, beg := c'.beg, wr := c'.wr, val := c'.val }) 3 (by omega) rfl).upd (c' := { c with part := c'.part, beg := c'.beg, wr := c'.wr, val := c'.val, reached := c'.reached }) 4 (by omega) rfl).upd
    (c' := { c with part := c'.part, beg := c'.beg, wr := c'.wr, val := c'.val, reached := c'.reached, many := c'.many }) 5 (by omega) rfl).upd
    (c' := { c with part := c'.part, beg := c'.beg, wr := c'.wr, val := c'.val, reached := c'.reached, many := c'.many, bs := c'.bs }) 6 (by omega) rfl).upd (c' := c') 7 (by omega) rfl
theorem RepC.alloc {B ba bl : Nat} {ov : Value} {s : St} {i : Nat} {c : Cl} {w : World} (h : RepC B ba bl ov s i c w) (o : Obj) : RepC B ba bl ov s i c (w.alloc o) :=
  ⟨h.1, h.2.all.alloc o, h.2.kept.alloc o, h.2.ops.alloc o, h.2.loa, h.2.lol, h.2.six⟩
theorem Rep.alloc {B ba bl : Nat} {ov : Value} {s : St} {w : World} (h : Rep B ba bl ov s w) (o : Obj) : Rep B ba bl ov s (w.alloc o) := ⟨h.all.alloc o, h.kept.alloc o, h.ops.alloc o, h.loa, h.lol, h.six⟩
end Go.Proofs.Ytbibibpliahclaa.Cp
