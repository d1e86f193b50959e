/-
  Of every run and its events: the order by ticks and processes is a run in which the same are ahead of the same (TickOrder). No condition.
-/
import Derived.Test.YtaodgbeobdholaaTop
import Derived.Test.YtaodgbeobdholaaOpen
namespace Go.Proofs.Ytaodgbeobdholaa
open Go.ChangeShapes Go.WideShapes Go.ChangeAt Go.RowKit

theorem tick_any (n : Int) (ao : Option Addr) (len cap : Nat) (L : List Rn.Ev) (hL : L.length = len) (hc : len ≤ cap) (w : World) (hM : Rn.EvsAt w ao L) :
    Calls Try.prog 3 #[.int .i64 n, .slice ao len cap] w fun e w' => e = .returned (.bool true) ∧ Below w.heap.size w w' := by
  subst hL
  exact Rn.tick_law n ao cap L hc w hM

set_option maxRecDepth 100000 in
theorem TickOrder_lifted (os : Os) (started : os.Started) (H : Type) (enc : TypeId × Value → H) :
    ReturnsInHanded {} Try.checked os 3 .any (Rows.tickOrderSpec.pre6 enc Try.prog Try.f3 Rows.tickOrderRow.domain false) (Rows.tickOrderSpec.post enc Try.prog Try.f3 false true false false) := by
  refine returnsInHanded_of_change (C := Try.checked) Try.own started (by kernel_rfl) Try.func3
    (ChangeSpec.witness6 (enc := enc) (C := Try.checked) false ⟨#[], #[.int .i64 0, .slice none 0 0], []⟩ 8 (by kernel_rfl) (by kernel_rfl) (by kernel_rfl) (by kernel_rfl)) ?_
  intro W base args ds gs before hval0 hW hcnd _
  have hval : ∀ (j : Nat) t v, Try.f3.params[j]? = some t → args[j]? = some v → Value.okWide Try.prog W .any base t v := hval0
  have hW' := hW
  obtain ⟨p, q, hA0, hV, rfl, hfz, hnd⟩ := hW
  have hA : DataW.TrodAll enc Try.prog W 0 (fun _ => true) true Try.f3.params.toList args.toList ds p := hA0
  rw [Try.params3] at hA hval
  obtain ⟨v0, v1, d0, d1, p0, p1, rfl, rfl, rfl, h0, h1⟩ := trodAll_two hA
  obtain ⟨rfl, rfl⟩ := trodVars_none hV
  obtain ⟨a0, rfl, rfl, rfl, wa0⟩ := open_int Try.underlying3 (hval 0 3 v0 rfl rfl) h0
  obtain ⟨a1, len1, cap1, rfl⟩ := okWide_slice Try.underlying22 (hval 1 22 v1 rfl rfl)
  clear hA0 hval0
  simp only [List.append_nil, List.nil_append] at hW'
  have hlt1 : ∀ x ∈ p1, x.block < W.heap.size := fun x hx => by simpa using hW'.lt x (by first | exact hx | (simp only [List.mem_append]; first | exact .inl hx | exact .inr hx | exact .inr (.inl hx) | exact .inr (.inr hx) | exact .inl (.inl hx) | exact .inl (.inr hx)))
  obtain ⟨fuel1, hf1⟩ := id h1
  simp only [Value.cells] at hf1
  obtain ⟨L1, hL1, hM1, hcp1⟩ := open_events hf1
  refine (tick_any a0 a1 len1 cap1 L1 hL1 hcp1 W hM1).mono fun e W' ⟨he, hw⟩ => ?_
  subst he
  have harg1 : DataW.Trod enc Try.prog W' 0 (fun b => decide (b < W.heap.size)) true 22 (.slice a1 len1 cap1) d1 p1 :=
    Below.trod Try.laidOut (by kernel_rfl) (of_decide_eq_true (by kernel_rfl)) h1 hw hlt1
  exact ⟨_, rfl, _, _, _, [], _, [], hW', trodAll_mk1 (shut_bool Try.underlying4 true), trodAll_mk2 (shut_int Try.underlying3 wa0) harg1, rfl, hw.frame _, fun h => by cases h⟩

theorem TickOrder_holds : Rows.TickOrderSaid :=
  OpenClaim.holds_of_wide 3 Try.f3 rfl rfl rfl rfl rfl rfl rfl ⟨rfl, rfl, rfl, rfl, rfl⟩ rfl rfl rfl rfl rfl (by kernel_rfl) Try.func3 (by kernel_rfl)
    (of_decide_eq_true (by kernel_rfl)) (by unfold Func.isWrapper; first | (rw [if_neg (by decide +kernel)]; exact ⟨rfl, rfl⟩) | (rw [if_pos (by decide +kernel)]; kernel_rfl))
    (fun os started H enc _ => TickOrder_lifted os started H enc)

end Go.Proofs.Ytaodgbeobdholaa
