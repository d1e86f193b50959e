/-
  Of any links, a start and an order of messages: when the echo algorithm is done, all that are joined with the start have heard, and by each of their links two messages were sent (EchoDone). No condition.
-/
import Derived.Test.YtaodgbeobdholaaEchoDone
import Derived.Test.YtaodgbeobdholaaOpen2
import Derived.Test.YtaodgbeobdholaaOpen
namespace Go.Proofs.Ytaodgbeobdholaa
open Go.ChangeShapes Go.WideShapes Go.ChangeAt Go.RowKit

theorem echo_done_any (n start : Int) (ao oo : Option Addr) (len cap m oc : Nat) (L : List (Int × Int)) (O : List Int) (hl : L.length = len) (hcap : len ≤ cap) (ho : O.length = m) (w : World) (hL : Ec.LinksAt w ao L) (hO : Ec.IntsAt w oo O) (hnil : oo = none → oc = 0) (hm : (m : Int) ≤ 9223372036854775807) :
    Calls Try.prog 5 #[.int .i64 n, .slice ao len cap, .int .i64 start, .slice oo m oc] w fun e w' => e = .returned (.bool true) ∧ Below w.heap.size w w' := by
  subst hl ho
  exact Ec.echo_done n start ao oo _ cap oc L O w rfl hcap hL hO hnil hm

set_option maxRecDepth 100000 in
theorem EchoDone_lifted (os : Os) (started : os.Started) (H : Type) (enc : TypeId × Value → H) :
    ReturnsInHanded {} Try.checked os 5 .any (Rows.echoDoneSpec.pre6 enc Try.prog Try.f5 Rows.echoDoneRow.domain false) (Rows.echoDoneSpec.post enc Try.prog Try.f5 false true false false) := by
  refine returnsInHanded_of_change (C := Try.checked) Try.own started (by kernel_rfl) Try.func5
    (ChangeSpec.witness6 (enc := enc) (C := Try.checked) false ⟨#[], #[.int .i64 0, .slice none 0 0, .int .i64 0, .slice none 0 0], []⟩ 8 (by kernel_rfl) (by kernel_rfl) (by kernel_rfl) (by kernel_rfl)) ?_
  intro W base args ds gs before hval0 hW hcnd _
  have hval : ∀ (j : Nat) t v, Try.f5.params[j]? = some t → args[j]? = some v → Value.okWide Try.prog W .any base t v := hval0
  have hW' := hW
  obtain ⟨p, q, hA0, hV, rfl, hfz, hnd⟩ := hW
  have hA : DataW.TrodAll enc Try.prog W 0 (fun _ => true) true Try.f5.params.toList args.toList ds p := hA0
  rw [Try.params5] at hA hval
  obtain ⟨v0, v1, v2, v3, d0, d1, d2, d3, p0, p1, p2, p3, rfl, rfl, rfl, h0, h1, h2, h3⟩ := trodAll_four hA
  obtain ⟨rfl, rfl⟩ := trodVars_none hV
  obtain ⟨a0, rfl, rfl, rfl, wa0⟩ := open_int Try.underlying3 (hval 0 3 v0 rfl rfl) h0
  obtain ⟨a1, len1, cap1, rfl⟩ := okWide_slice Try.underlying30 (hval 1 30 v1 rfl rfl)
  obtain ⟨a2, rfl, rfl, rfl, wa2⟩ := open_int Try.underlying3 (hval 2 3 v2 rfl rfl) h2
  obtain ⟨a3, len3, cap3, rfl⟩ := okWide_slice Try.underlying23 (hval 3 23 v3 rfl rfl)
  clear hA0 hval0
  simp only [List.append_nil, List.nil_append] at hW'
  have hlt1 : ∀ x ∈ p1, x.block < W.heap.size := fun x hx => by simpa using hW'.lt x (by first | exact hx | (simp only [List.mem_append]; first | exact .inl hx | exact .inr hx | exact .inr (.inl hx) | exact .inr (.inr hx) | exact .inl (.inl hx) | exact .inl (.inr hx)))
  obtain ⟨fuel1, hf1⟩ := id h1
  simp only [Value.cells] at hf1
  obtain ⟨L1, hL1, hM1, hcp1⟩ := open_links hf1
  have hlt3 : ∀ x ∈ p3, x.block < W.heap.size := fun x hx => by simpa using hW'.lt x (by first | exact hx | (simp only [List.mem_append]; first | exact .inl hx | exact .inr hx | exact .inr (.inl hx) | exact .inr (.inr hx) | exact .inl (.inl hx) | exact .inl (.inr hx)))
  obtain ⟨fuel3, hf3⟩ := id h3
  simp only [Value.cells] at hf3
  obtain ⟨L3, hL3, hM3, hnl3, hmx3⟩ := open_nums hf3
  refine (echo_done_any a0 a2 a1 a3 len1 cap1 len3 cap3 L1 L3 hL1 hcp1 hL3 W hM1 hM3 hnl3 hmx3).mono fun e W' ⟨he, hw⟩ => ?_
  subst he
  have harg1 : DataW.Trod enc Try.prog W' 0 (fun b => decide (b < W.heap.size)) true 30 (.slice a1 len1 cap1) d1 p1 :=
    Below.trod Try.laidOut (by kernel_rfl) (of_decide_eq_true (by kernel_rfl)) h1 hw hlt1
  have harg3 : DataW.Trod enc Try.prog W' 0 (fun b => decide (b < W.heap.size)) true 23 (.slice a3 len3 cap3) d3 p3 :=
    Below.trod Try.laidOut (by kernel_rfl) (of_decide_eq_true (by kernel_rfl)) h3 hw hlt3
  exact ⟨_, rfl, _, _, _, [], _, [], hW', trodAll_mk1 (shut_bool Try.underlying4 true), trodAll_mk4 (shut_int Try.underlying3 wa0) harg1 (shut_int Try.underlying3 wa2) harg3, rfl, hw.frame _, fun h => by cases h⟩

theorem EchoDone_holds : Rows.EchoDoneSaid :=
  OpenClaim.holds_of_wide 5 Try.f5 rfl rfl rfl rfl rfl rfl rfl ⟨rfl, rfl, rfl, rfl, rfl⟩ rfl rfl rfl rfl rfl (by kernel_rfl) Try.func5 (by kernel_rfl)
    (of_decide_eq_true (by kernel_rfl)) (by unfold Func.isWrapper; first | (rw [if_neg (by decide +kernel)]; exact ⟨rfl, rfl⟩) | (rw [if_pos (by decide +kernel)]; kernel_rfl))
    (fun os started H enc _ => EchoDone_lifted os started H enc)

end Go.Proofs.Ytaodgbeobdholaa
