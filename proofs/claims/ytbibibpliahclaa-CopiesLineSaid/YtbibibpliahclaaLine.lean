/-
  The walks through line's order, Check and Line.
-/
import Derived.Test.YtbibibpliahclaaFind
namespace Go.Proofs.Ytbibibpliahclaa.Cp
open Go Go.RowKit Mem

theorem order_any {ao : Option Addr} {cap : Nat} {L : List Op} (hl : L.length ≤ 8) (w : World) (hL : OpsAt w ao L) :
    Calls Try.prog 10 #[.slice ao L.length cap, BehindV] w fun e w' => (∃ ov ok, e = .returned (.tuple #[ov, .bool ok]) ∧ (ok = false → ¬ Can L 0 (-1))) ∧ Below w.heap.size w w' := by
  have hmm := @run_makeMap Try.prog
  have HL := Lib.hid hL
  clear hL
  unfold BehindV
  go_enter Try.func10, Try.ntmps10
  go_wp2_with fail
  refine (find_any (L := L) (ao := ao) (cap := cap) (fb := w.heap.size + 1) (mb := w.heap.size) hl (L.length + 1) 0 (-1) _ ?_ ?_ (by omega) (by omega) (by omega) ?_ ?_).mono ?_
  · have := left_le L.length 0; omega
  · exact (HL.out.later ((Below.refl _ _).alloc (Nat.le_refl _) _)).later ((Below.refl _ _).alloc (Nat.le_refl _) _)
  · have := Blk.new (w.alloc (.map #[] 0)) [.slice ao L.length cap, BehindV, .map (some w.heap.size)] 61
    rw [World.size_alloc] at this
    exact this
  · refine MapOk.alloc ⟨#[], 0, (MapKept.heap_alloc w _).1, ?_⟩ _
    intro e he
    simp at he
  · rintro e w2 ⟨ov, ok, xs, rfl, hc, hown, -, -, -, hfr⟩
    have HC := Lib.hid hc
    have HFR := Lib.hid hfr
    clear hc hown hfr hmm
    go_wp2
    go_ret2
    refine ⟨⟨ov, ok, rfl, HC.out⟩, ?_⟩
    have h1 := HFR.out
    refine ⟨h1.os, h1.tape, h1.output, by have := h1.size; simp at this; omega, fun k hk => ?_⟩
    rw [h1.block k (by simp; omega) (by omega), Below.heap_alloc _ _ _ (by simp; omega), Below.heap_alloc _ _ _ hk]

/-- what Check asks of a list -/
structure WfOps (L : List Op) : Prop where
  len : L.length ≤ 8
  one : ∀ a ∈ L, a.beg < a.fin
  two : ∀ (i j : Nat) (a b : Op), j < i → L[i]? = some a → L[j]? = some b → a.frm = b.frm → b.beg < a.fin → ¬ a.beg < b.fin

set_option maxRecDepth 100000 in
set_option maxHeartbeats 2000000 in
theorem check_any {ao : Option Addr} {cap : Nat} {L : List Op} (hw : WfOps L) (hcap : L.length ≤ cap) (w : World) (hL : OpsAt w ao L) :
    Calls Try.prog 9 #[.slice ao L.length cap] w fun e w' => e = .returned (.int .i64 0) ∧ Below w.heap.size w w' := by
  have h8 := hw.len
  have HW := Lib.hid hw
  have HL := Lib.hid hL
  clear hw hL
  go_enter Try.func9, Try.ntmps9
  go_wp2
  go_loopw [14] (fun i wr => ∃ k : Nat, k ≤ L.length ∧ i = .int .i64 k ∧ Below w.heap.size w wr) (fun i _ => L.length - (intOf i).toNat)
  case atStart => exact ⟨0, Nat.zero_le _, rfl, Below.refl _ _⟩
  case round =>
    obtain ⟨k, hk, rfl, hb⟩ := hrel
    by_cases hlt : k < L.length
    · obtain ⟨a, ha⟩ : ∃ a, L[k]? = some a := ⟨L[k], List.getElem?_eq_getElem hlt⟩
      obtain ⟨b, off, hao, hcells⟩ := (HL.out.later hb) (by intro e; rw [e] at hlt; simp at hlt)
      obtain ⟨r0, r1, r2, r3, r4⟩ := hcells k a ha
      have hone := HW.out.one a (List.mem_of_getElem? ha)
      subst hao
      have HB := Lib.hid hb
      clear hb hcells ha
      go_wp2
      go_roundw
      case rel => exact ⟨k + 1, by omega, by go_num, HB.out.alloc (by have := HB.out.size; omega) _⟩
      case measure => simp [intOf]; omega
    · have HB := Lib.hid hb
      clear hb
      go_wp2
      go_loopw [26] (fun i wr => ∃ k : Nat, k ≤ L.length ∧ i = .int .i64 k ∧ Below w.heap.size w wr) (fun i _ => L.length - (intOf i).toNat)
      case atStart => exact ⟨0, Nat.zero_le _, rfl, HB.out⟩
      case round =>
        clear HB
        obtain ⟨i, hi, rfl, hb⟩ := hrel
        by_cases hlt2 : i < L.length
        · obtain ⟨a, ha⟩ : ∃ a, L[i]? = some a := ⟨L[i], List.getElem?_eq_getElem hlt2⟩
          obtain ⟨b, off, hao, hcells⟩ := (HL.out.later hb) (by intro e; rw [e] at hlt2; simp at hlt2)
          obtain ⟨r0, r1, r2, r3, r4⟩ := hcells i a ha
          subst hao
          have HB := Lib.hid hb
          have HA := Lib.hid ha
          clear hb hcells ha
          go_wp2
          obtain ⟨wo, hwo⟩ : ∃ wo : World, wo = wr := ⟨_, rfl⟩
          refine gen_world (P := Code.wp Try.prog _ _ _) (Q := fun W => Below w.heap.size w W ∧ Blk W wo.heap.size (OpL a) 35 ∧ w.heap.size ≤ wo.heap.size) _ ?_ ?_
          · rw [hwo]
            exact ⟨HB.out.alloc (by have := HB.out.size; omega) _, Blk.new wr (OpL a) 35, HB.out.size⟩
          rw [← hwo]
          generalize wo.heap.size = ab
          clear r0 r1 r2 r3 r4 hwo HB
          intro w5 hI
          go_loopw [35] (fun j wq => ∃ x : Nat, x ≤ i ∧ j = .int .i64 x ∧ Below w.heap.size w wq ∧ Blk wq ab (OpL a) 35 ∧ w.heap.size ≤ ab) (fun j _ => i - (intOf j).toNat)
          case atStart => exact ⟨0, Nat.zero_le _, rfl, hI⟩
          case round =>
            clear hI
            obtain ⟨x, hx, rfl, hb, hab, hab2⟩ := hrel
            by_cases hlt3 : x < i
            · obtain ⟨c, hc⟩ : ∃ c, L[x]? = some c := ⟨L[x], List.getElem?_eq_getElem (by omega)⟩
              obtain ⟨b2, off2, hao, hcells⟩ := (HL.out.later hb) (by intro e; rw [e] at hlt2; simp at hlt2)
              obtain ⟨rfl, rfl⟩ := (show b = b2 ∧ off = off2 by simpa using hao)
              obtain ⟨r0, r1, r2, r3, r4⟩ := hcells x c hc
              have two := HW.out.two i x a c hlt3 HA.out hc
              have x0 := hab.cell (o := 0) rfl
              have x1 := hab.cell (o := 1) rfl
              have x2 := hab.cell (o := 2) rfl
              have hlb := hab.lt
              have HB := Lib.hid hb
              have HAB := Lib.hid hab
              clear hb hcells hc hab hao
              by_cases e1 : a.frm = c.frm
              · by_cases e2 : c.beg < a.fin
                · have e3 : ¬ a.beg < c.fin := two e1 e2
                  have e4 : c.fin ≤ a.beg := by omega
                  have e5 : (a.frm == c.frm) = true := by simpa using e1
                  clear two e1 e3
                  go_wp2
                  go_roundw
                  case rel => exact ⟨x + 1, by omega, by go_num, HB.out.alloc (by have := HB.out.size; omega) _, HAB.out.alloc _, hab2⟩
                  case measure => simp [intOf]; omega
                · have e5 : (a.frm == c.frm) = true := by simpa using e1
                  have e4 : a.fin ≤ c.beg := by omega
                  clear two e1 e2
                  go_wp2
                  go_roundw
                  case rel => exact ⟨x + 1, by omega, by go_num, HB.out.alloc (by have := HB.out.size; omega) _, HAB.out.alloc _, hab2⟩
                  case measure => simp [intOf]; omega
              · have e5 : (a.frm == c.frm) = false := by simpa using e1
                clear two e1
                go_wp2
                go_roundw
                case rel => exact ⟨x + 1, by omega, by go_num, HB.out.alloc (by have := HB.out.size; omega) _, HAB.out.alloc _, hab2⟩
                case measure => simp [intOf]; omega
            · have HB := Lib.hid hb
              clear hb hab
              go_wp2
              go_roundw
              case rel => exact ⟨i + 1, by omega, by go_num, HB.out⟩
              case measure => simp [intOf]; omega
        · have HB := Lib.hid hb
          clear hb
          go_wp2
          go_ret
          exact ⟨by first | rfl | trivial, HB.out⟩

theorem line_any {ao : Option Addr} {cap : Nat} {L : List Op} (hw : WfOps L) (hcap : L.length ≤ cap) (hcan : Can L 0 (-1)) (w : World) (hL : OpsAt w ao L) :
    Calls Try.prog 6 #[.slice ao L.length cap] w fun e w' => e = .returned (.tuple #[.bool true, .int .i64 0]) ∧ Below w.heap.size w w' := by
  have HW := Lib.hid hw
  have HL := Lib.hid hL
  have HCAN := Lib.hid hcan
  clear hw hL hcan
  go_enter Try.func6, Try.ntmps6
  go_wp2_with fail
  refine (check_any HW.out hcap _ HL.out).mono ?_
  rintro e w1 ⟨rfl, hb⟩
  have HB := Lib.hid hb
  clear hb
  go_wp2_with fail
  refine (order_any HW.out.len _ (HL.out.later HB.out)).mono ?_
  rintro e w2 ⟨⟨ov, ok, rfl, hc⟩, hb2⟩
  have hok : ok = true := by
    cases ok with
    | true => rfl
    | false => exact absurd HCAN.out (hc rfl)
  subst hok
  have HB2 := Lib.hid hb2
  clear hb2 hc
  go_wp2
  go_ret2
  exact ⟨by first | rfl | trivial, HB.out.trans (HB2.out.mono HB.out.size)⟩
end Go.Proofs.Ytbibibpliahclaa.Cp
