/-
  The arguments, opened: links and numbers.
-/
import Derived.Test.YtaodgbeobdholaaEchoPlay
import Derived.ProofKit
import Derived.Deep.Slices
import Derived.Carry
import Derived.OpenShut
namespace Go.Proofs.Ytaodgbeobdholaa
open Go.ChangeShapes Go.WideShapes Go.ChangeAt Go.RowKit

theorem Try2.cells38 : Try.prog.cellsOf 38 = 2 := by kernel_rfl
theorem Try2.cells3 : Try.prog.cellsOf 3 = 1 := by kernel_rfl

set_option maxRecDepth 100000 in
/-- the slice of links, opened -/
theorem open_links {H : Type} {enc : TypeId × Value → H} {w : World} {base : Nat} {spare : Nat → Bool} {held : Bool} {fuel : Nat} {ao : Option Addr} {len cap : Nat} {x : DataW H × List MemPlace}
    (h : DataW.trod enc Try.prog w base spare held fuel 30 [.slice ao len cap] = some x) : ∃ L : List (Int × Int), L.length = len ∧ Ec.LinksAt w ao L ∧ len ≤ cap := by
  rcases Deep.open_slice Try.underlying30 h with ⟨h0, _⟩ | ⟨a, len', cap', m, n, D, Pl, hcs, hb, hl, hm, hmm, _, hx⟩
  · simp at h0
    obtain ⟨rfl, rfl, rfl⟩ := h0
    exact ⟨[], rfl, fun h => absurd rfl h, Nat.le_refl _⟩
  simp at hcs
  obtain ⟨rfl, rfl, rfl⟩ := hcs
  have hlm : len ≤ m := by rw [hmm]; split <;> omega
  have each : ∀ i, i < len → ∃ q : Int × Int, w.cell? (a.add (i * 2)) = some (.int .i64 q.1) ∧ w.cell? (a.add (i * 2 + 1)) = some (.int .i64 q.2) := by
    intro i hi
    obtain ⟨cs', h1, h2⟩ := hx i (by omega)
    rw [Try2.cells38] at h1
    obtain ⟨_, hlen, hcell⟩ := World.cells?_some h1
    obtain ⟨xs, k, hk, hxy, _, hxl, hf⟩ := DataW.trod_array Try.underlying38 h2
    match xs, hxl, cs', hlen with
    | [y0, y1], _, [v0, v1], _ =>
      have g0 := hf 0 (by omega)
      have g1 := hf 1 (by omega)
      simp [Try2.cells3] at g0 g1
      obtain ⟨n0, e0, _, _⟩ := DataW.trod_int Try.underlying3 g0
      obtain ⟨n1, e1, _, _⟩ := DataW.trod_int Try.underlying3 g1
      simp at e0 e1
      subst e0 e1
      have c0 := hcell 0 (by omega)
      have c1 := hcell 1 (by omega)
      rw [Deep.add_add] at c0 c1
      exact ⟨⟨n0, n1⟩, by simpa using c0, by simpa using c1⟩
  obtain ⟨q, hq⟩ := Deep.choose_lt each
  refine ⟨(List.range len).map q, by simp, fun hne => ?_, hl⟩
  have hpos : 0 < len := by
    rcases Nat.eq_zero_or_pos len with h0 | h0
    · rw [h0] at hne; simp at hne
    · exact h0
  obtain ⟨b, off, spot⟩ := a
  have hspot : spot = none := by simpa [Addr.add] using World.cell?_spot (hq 0 hpos).1
  subst hspot
  refine ⟨b, off, rfl, fun k mv hk => ?_⟩
  rw [List.getElem?_map] at hk
  obtain ⟨k', hk1, rfl⟩ := Option.map_eq_some_iff.1 hk
  have hkl := (List.getElem?_eq_some_iff.1 hk1).1
  have hk2 : k' = k := by
    have := (List.getElem?_eq_some_iff.1 hk1).2
    simpa using this.symm
  subst hk2
  rw [List.length_range] at hkl
  obtain ⟨d0, d1⟩ := hq k' hkl
  rw [add_plain] at d0 d1
  exact ⟨d0, d1⟩
/-- a slice of numbers, opened -/
theorem open_nums {H : Type} {enc : TypeId × Value → H} {w : World} {base : Nat} {spare : Nat → Bool} {held : Bool} {fuel : Nat} {ao : Option Addr} {len cap : Nat} {x : DataW H × List MemPlace}
    (h : DataW.trod enc Try.prog w base spare held fuel 23 [.slice ao len cap] = some x) : ∃ C : List Int, C.length = len ∧ Ec.IntsAt w ao C ∧ (ao = none → cap = 0) ∧ (len : Int) ≤ 9223372036854775807 := by
  rcases Deep.open_slice1 Try.underlying23 Try2.cells3 h with ⟨h0, _⟩ | ⟨a, len', cap', m, n, V, D, Pl, hcs, hb, hl, hm, hmm, _, hx⟩
  · simp at h0
    obtain ⟨rfl, rfl, rfl⟩ := h0
    exact ⟨[], rfl, fun h => absurd rfl h, fun _ => rfl, by simp⟩
  simp at hcs
  obtain ⟨rfl, rfl, rfl⟩ := hcs
  have hlm : len ≤ m := by rw [hmm]; split <;> omega
  have each : ∀ i, i < len → ∃ q : Int, w.cell? (a.add i) = some (.int .i64 q) := by
    intro i hi
    obtain ⟨h1, h2⟩ := hx i (by omega)
    obtain ⟨n0, e0, _, _⟩ := DataW.trod_int Try.underlying3 h2
    simp at e0
    exact ⟨n0, e0 ▸ h1⟩
  obtain ⟨q, hq⟩ := Deep.choose_lt each
  refine ⟨(List.range len).map q, by simp, fun hne => ?_, fun e => (by cases e), by unfold maxLen at hm; omega⟩
  have hpos : 0 < len := by
    rcases Nat.eq_zero_or_pos len with h0 | h0
    · rw [h0] at hne; simp at hne
    · exact h0
  obtain ⟨b, off, spot⟩ := a
  have hspot : spot = none := by
    have := World.cell?_spot (hq 0 hpos)
    simpa [Addr.add] using this
  subst hspot
  refine ⟨b, off, rfl, fun k mv hk => ?_⟩
  rw [List.getElem?_map] at hk
  obtain ⟨k', hk1, rfl⟩ := Option.map_eq_some_iff.1 hk
  have hkl := (List.getElem?_eq_some_iff.1 hk1).1
  have hk2 : k' = k := by
    have := (List.getElem?_eq_some_iff.1 hk1).2
    simpa using this.symm
  subst hk2
  rw [List.length_range] at hkl
  have d0 := hq k' hkl
  rw [add_plain] at d0
  exact d0
end Go.Proofs.Ytaodgbeobdholaa
