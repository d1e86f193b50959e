/-
  The arguments, opened: events; the program's closed facts.
-/
import Derived.Test.YtaodgbeobdholaaCheck
import Derived.ProofKit
import Derived.Deep.Slices
namespace Go.Proofs.Ytaodgbeobdholaa
open Go.ChangeShapes Go.WideShapes Go.ChangeAt Go.RowKit

theorem Try.own : ownKnob Try.prog.godebug = none := by kernel_rfl
theorem Try.laidOut : laidOutB Try.prog = true := by kernel_rfl
theorem Try.cells45 : Try.prog.cellsOf 45 = 3 := by kernel_rfl
theorem Try.cells3 : Try.prog.cellsOf 3 = 1 := by kernel_rfl

set_option maxRecDepth 100000 in
/-- the slice of events, opened -/
theorem open_events {H : Type} {enc : TypeId × Value → H} {w : World} {base : Nat} {spare : Nat → Bool} {held : Bool} {fuel : Nat} {ao : Option Addr} {len cap : Nat} {x : DataW H × List MemPlace}
    (h : DataW.trod enc Try.prog w base spare held fuel 22 [.slice ao len cap] = some x) : ∃ L : List Rn.Ev, L.length = len ∧ Rn.EvsAt w ao L ∧ len ≤ cap := by
  rcases Deep.open_slice Try.underlying22 h with ⟨h0, _⟩ | ⟨a, len', cap', m, n, D, Pl, hcs, hb, hl, hm, hmm, _, hx⟩
  · simp at h0
    obtain ⟨rfl, rfl, rfl⟩ := h0
    exact ⟨[], rfl, fun h => absurd rfl h, Nat.le_refl _⟩
  simp at hcs
  obtain ⟨rfl, rfl, rfl⟩ := hcs
  have hlm : len ≤ m := by rw [hmm]; split <;> omega
  have each : ∀ i, i < len → ∃ q : Rn.Ev, w.cell? (a.add (i * 3)) = some (.int .i64 q.proc) ∧ w.cell? (a.add (i * 3 + 1)) = some (.int .i64 q.kind) ∧
      w.cell? (a.add (i * 3 + 2)) = some (.int .i64 q.msg) := by
    intro i hi
    obtain ⟨cs', h1, h2⟩ := hx i (by omega)
    rw [Try.cells45] at h1
    obtain ⟨_, hlen, hcell⟩ := World.cells?_some h1
    obtain ⟨xs, k, hk, hxy, _, hxl, hf⟩ := DataW.trod_struct Try.underlying45 h2
    match xs, hxl, cs', hlen with
    | [y0, y1, y2], _, [v0, v1, v2], _ =>
      have g0 := hf 0 _ rfl
      have g1 := hf 1 _ rfl
      have g2 := hf 2 _ rfl
      simp [Try.cells3] at g0 g1 g2
      obtain ⟨n0, e0, _, _⟩ := DataW.trod_int Try.underlying3 g0
      obtain ⟨n1, e1, _, _⟩ := DataW.trod_int Try.underlying3 g1
      obtain ⟨n2, e2, _, _⟩ := DataW.trod_int Try.underlying3 g2
      simp at e0 e1 e2
      subst e0 e1 e2
      have c0 := hcell 0 (by omega)
      have c1 := hcell 1 (by omega)
      have c2 := hcell 2 (by omega)
      rw [Deep.add_add] at c0 c1 c2
      exact ⟨⟨n0, n1, n2⟩, by simpa using c0, by simpa using c1, by simpa using c2⟩
  obtain ⟨q, hq⟩ := Deep.choose_lt each
  refine ⟨(List.range len).map q, by simp, fun hne => ?_, hl⟩
  have hpos : 0 < len := by
    rcases Nat.eq_zero_or_pos len with h0 | h0
    · rw [h0] at hne; simp at hne
    · exact h0
  obtain ⟨b, off, spot⟩ := a
  have hspot : spot = none := by simpa [Addr.add] using World.cell?_spot (hq 0 hpos).1
  subst hspot
  refine ⟨b, off, rfl, fun k mv hk => ?_⟩
  rw [List.getElem?_map] at hk
  obtain ⟨k', hk1, rfl⟩ := Option.map_eq_some_iff.1 hk
  have hkl := (List.getElem?_eq_some_iff.1 hk1).1
  have hk2 : k' = k := by
    have := (List.getElem?_eq_some_iff.1 hk1).2
    simpa using this.symm
  subst hk2
  rw [List.length_range] at hkl
  obtain ⟨d0, d1, d2⟩ := hq k' hkl
  rw [add_plain] at d0 d1 d2
  exact ⟨d0, d1, d2⟩
end Go.Proofs.Ytaodgbeobdholaa
