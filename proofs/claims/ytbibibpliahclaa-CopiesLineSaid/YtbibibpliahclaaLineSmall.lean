/-
  The walks through line's small functions: ended, same, the law that joins them, waits.
-/
import Derived.Test.YtbibibpliahclaaDoAll
import Derived.Test.YtbibibpliahclaaLineModel
namespace Go.Proofs.Ytbibibpliahclaa.Cp
open Go Go.RowKit Mem

def OpV (o : Op) : Value := .agg #[.int .i64 o.frm, .int .i64 o.beg, .int .i64 o.fin, .bool o.wr, .int .i64 o.val]

theorem ended_any (a b : Op) (w : World) : Calls Try.prog 12 #[OpV a, OpV b] w fun e w' => e = .returned (.bool (endedB a b)) ∧ Below w.heap.size w w' := by
  obtain ⟨af, ab, ae, aw, av⟩ := a
  obtain ⟨bf, bb, be, bw, bv⟩ := b
  unfold OpV
  go_enter Try.func12, Try.ntmps12
  go_wp2
  go_ret
  exact ⟨by simp [endedB], ((Below.refl _ _).alloc (Nat.le_refl _) _).alloc (by simp) _⟩

theorem same_any (a b : Op) (w : World) : Calls Try.prog 13 #[OpV a, OpV b] w fun e w' => e = .returned (.bool (sameB a b)) ∧ Below w.heap.size w w' := by
  obtain ⟨af, ab, ae, aw, av⟩ := a
  obtain ⟨bf, bb, be, bw, bv⟩ := b
  unfold OpV
  by_cases h : af = bf
  · subst h
    go_enter Try.func13, Try.ntmps13
    go_wp2
    all_goals go_ret
    all_goals exact ⟨by simp [sameB], ((Below.refl _ _).alloc (Nat.le_refl _) _).alloc (by simp) _⟩
  · have h2 : (af == bf) = false := by simpa using h
    have H := Lib.hid h
    clear h
    go_enter Try.func13, Try.ntmps13
    go_wp2
    all_goals go_ret
    all_goals exact ⟨by simp [sameB, H.out], ((Below.refl _ _).alloc (Nat.le_refl _) _).alloc (by simp) _⟩

theorem behind_any (a b : Op) (w : World) : Calls Try.prog 11 #[OpV a, OpV b] w fun e w' => e = .returned (.bool (behindB a b)) ∧ Below w.heap.size w w' := by
  cases he : endedB a b with
  | true =>
    have e1 : Hid (behindB a b = true) := Lib.hid (by simp [behindB, he])
    have HE := Lib.hid he
    clear he
    obtain ⟨af, ab, ae, aw, av⟩ := a
    obtain ⟨bf, bb, be, bw, bv⟩ := b
    unfold OpV
    go_enter Try.func11, Try.ntmps11
    go_wp2_with fail
    refine (ended_any ⟨af, ab, ae, aw, av⟩ ⟨bf, bb, be, bw, bv⟩ _).mono ?_
    rintro e w1 ⟨rfl, hb⟩
    have HB := Lib.hid hb
    clear hb
    rw [HE.out]
    go_wp2
    go_ret
    refine ⟨by rw [e1.out]; rfl, ?_⟩
    exact Below.trans (((Below.refl _ _).alloc (Nat.le_refl _) _).alloc (by simp) _) (HB.out.mono (by simp; omega))
  | false =>
    have e1 : Hid (behindB a b = sameB a b) := Lib.hid (by simp [behindB, he])
    have HE := Lib.hid he
    clear he
    obtain ⟨af, ab, ae, aw, av⟩ := a
    obtain ⟨bf, bb, be, bw, bv⟩ := b
    unfold OpV
    go_enter Try.func11, Try.ntmps11
    go_wp2_with fail
    refine (ended_any ⟨af, ab, ae, aw, av⟩ ⟨bf, bb, be, bw, bv⟩ _).mono ?_
    rintro e w1 ⟨rfl, hb⟩
    rw [HE.out]
    have hs : w.heap.size + 1 < w1.heap.size := by have := hb.size; simp at this; omega
    have c := fun (o : Nat) (x : Nat) (hx : x < w.heap.size + 1 + 1) => hb.cell (p := ⟨x, o, none⟩) (by simpa using hx)
    have c0 := c 0 w.heap.size (by omega)
    have c1 := c 1 w.heap.size (by omega)
    have c2 := c 2 w.heap.size (by omega)
    have c3 := c 3 w.heap.size (by omega)
    have c4 := c 4 w.heap.size (by omega)
    have d0 := c 0 (w.heap.size + 1) (by omega)
    have d1 := c 1 (w.heap.size + 1) (by omega)
    have d2 := c 2 (w.heap.size + 1) (by omega)
    have d3 := c 3 (w.heap.size + 1) (by omega)
    have d4 := c 4 (w.heap.size + 1) (by omega)
    clear c
    have HB := Lib.hid hb
    clear hb
    simp [go_sem] at c0 c1 c2 c3 c4 d0 d1 d2 d3 d4
    go_wp2_with fail
    refine (same_any ⟨af, ab, ae, aw, av⟩ ⟨bf, bb, be, bw, bv⟩ _).mono ?_
    rintro e w2 ⟨rfl, hb2⟩
    have HB2 := Lib.hid hb2
    clear hb2 c0 c1 c2 c3 c4 d0 d1 d2 d3 d4
    go_wp2
    go_ret
    refine ⟨by rw [e1.out]; rfl, ?_⟩
    exact Below.trans (Below.trans (((Below.refl _ _).alloc (Nat.le_refl _) _).alloc (by simp) _) (HB.out.mono (by simp; omega))) (HB2.out.mono (by omega))
end Go.Proofs.Ytbibibpliahclaa.Cp
