/-
  The walk through tick's Order.
-/
import Derived.Test.YtaodgbeobdholaaSortAll
import Derived.Test.YtaodgbeobdholaaRan
import Derived.Test.YtaodgbeobdholaaMem4
namespace Go.Proofs.Ytaodgbeobdholaa.Rn
open Go Go.RowKit Mem Go.Shelf Go.Lib Go.Sort

set_option maxHeartbeats 2000000 in
theorem order_bad (n : Int) (ao : Option Addr) (cap : Nat) (L : List Ev) (w : World) (hc : check n L ≠ 0) (hL : EvsAt w ao L) :
    Calls Try.prog 8 #[.int .i64 n, .slice ao L.length cap] w fun e w' => e = .returned (.tuple #[.slice none 0 0, .int .i64 (check n L)]) ∧ Below w.heap.size w w' := by
  have HL := Lib.hid hL
  have hne : (check n L == 0) = false := by simpa using hc
  clear hL hc
  go_enter Try.func8, Try.ntmps8
  go_wp2_with fail
  refine (check_any n ao cap L _ (HL.out.later ((Below.refl _ _).alloc (Nat.le_refl _) _))).mono ?_
  rintro e w1 ⟨rfl, hb⟩
  have HB := Lib.hid hb
  clear hb
  go_wp2
  refine bodyPost_ret (v := .tuple #[.slice none 0 0, .int .i64 (check n L)]) (by simp [results, Try.results8, go_sem]) rfl ⟨rfl, ?_⟩
  exact ((Below.refl _ _).alloc (Nat.le_refl _) _).trans (HB.out.mono (by simp))

set_option maxRecDepth 100000 in
set_option maxHeartbeats 2000000 in
theorem order_good (n : Int) (ao : Option Addr) (cap : Nat) (L : List Ev) (w : World) (hc : check n L = 0) (hL : EvsAt w ao L) :
    Calls Try.prog 8 #[.int .i64 n, .slice ao L.length cap] w fun e w' => ∃ (oa : Option Addr) (oc : Nat) (O : List Nat), e = .returned (.tuple #[.slice oa O.length oc, .int .i64 0]) ∧ GoodOrder L O ∧ OrdAt w' oa O ∧ Below w.heap.size w w' := by
  obtain ⟨h1, h6, hl, hp⟩ := check_good hc
  have HL := Lib.hid hL
  have HP := Lib.hid hp
  have HC := Lib.hid hc
  clear hL hp hc
  go_enter Try.func8, Try.ntmps8
  go_wp2_with fail
  refine (check_any n ao cap L _ (HL.out.later ((Below.refl _ _).alloc (Nat.le_refl _) _))).mono ?_
  rintro e w1 ⟨rfl, hb⟩
  rw [HC.out]
  have hcl : w1.cell? ⟨w.heap.size, 0, none⟩ = some (.slice ao L.length cap) := by
    rw [hb.cell (by simp)]; exact (Blk.new w [_] 22).cell rfl
  have hb0 : Below w.heap.size w w1 := ((Below.refl _ _).alloc (Nat.le_refl _) _).trans (hb.mono (by simp))
  have hsz : w.heap.size < w1.heap.size := by have := hb.size; simp at this; omega
  have HB := Lib.hid hb0
  clear hb hb0
  obtain ⟨m, rfl⟩ : ∃ m : Nat, n = m := ⟨n.toNat, by omega⟩
  go_wp2_with fail
  refine (ticks_any m ao cap L _ (by omega) (by omega) hl HP.out (HL.out.later HB.out)).mono ?_
  rintro e w2 ⟨T, rfl, hT, hTl, hb2⟩
  have hcl2 : w2.cell? ⟨w.heap.size, 0, none⟩ = some (.slice ao L.length cap) := (hb2.cell (p := ⟨_, 0, none⟩) hsz).trans hcl
  have HT := Lib.hid hT
  clear hT
  have HB2 := Lib.hid (HB.out.trans (hb2.mono HB.out.size))
  have hsz2 : w.heap.size < w2.heap.size := by have := hb2.size; omega
  clear hb2 hcl HB
  go_wp2
  refine gen_world (P := Code.wp Try.prog _ _ _) (Q := OrdW w.heap.size w2.heap.size T ao cap L w) _ ?_ ?_
  · have hT2 := HT.out.alloc (.cells #[.slice (some ⟨T, 0, none⟩) L.length L.length] 23)
    refine ⟨(Blk.new w2 [_] 23).cell rfl, ?_, hT2, (HL.out.later HB2.out).later ((Below.refl _ _).alloc (Nat.le_refl _) _), HB2.out.alloc HB2.out.size _, by simp; omega, by simp, Nat.le_refl _⟩
    exact (((Below.refl w2.heap.size w2).alloc (Nat.le_refl _) (.cells #[.slice (some ⟨T, 0, none⟩) L.length L.length] 23)).cell (p := ⟨_, 0, none⟩) hsz2).trans hcl2
  intro w3 hI
  have HI := Lib.hid hI
  generalize w2.heap.size = tb at hI HI ⊢
  clear hI HT HB2 hcl2 hTl hsz hsz2 w2 w1
  obtain ⟨i0, hi0, hz0, hz1, hz2⟩ := info_parts info3
  go_loopw [8, 21] (fun v i wr => ∃ k : Nat, k ≤ L.length ∧ i = .int .i64 k ∧ wr.ownsRow w3.heap.size 3 1 v k (nums k) ∧ Below w3.heap.size w3 wr) (fun _ i _ => L.length - (intOf i).toNat)
  case atStart => exact ⟨0, Nat.zero_le _, rfl, World.ownsRow_nil _ _ _ _, Below.refl _ _⟩
  case round =>
    obtain ⟨k, hk, rfl, hown, hb⟩ := hrel
    have HOWN := Lib.hid hown
    have HB := Lib.hid hb
    have hws := hb.size
    clear hown hb
    by_cases hlt : k < L.length
    · go_wp2_with (at_builtin; refine wpList_append_one Try.underlying23 hi0 hz0 hz1 hz2 rfl HOWN.out [.int .i64 k] rfl rfl rfl rfl rfl rfl (by omega) (by omega) (by omega) hws ?_)
      intro v' w5 hown' hg'
      have HG := Lib.hid (owned_below HOWN.out HB.out (Nat.le_refl _) hws hg')
      rw [← nums_succ] at hown'
      have HOWN2 := Lib.hid hown'
      clear hown' hg'
      go_wp2
      go_roundw
      case rel => exact ⟨k + 1, by omega, by go_num, HOWN2.out, HG.out⟩
      case measure => simp [intOf]; omega
    · obtain rfl : k = L.length := by omega
      obtain ⟨oa, oc, rfl, hcall⟩ := sort_all hl (HI.out.later HB.out) (by have := HI.out; obtain ⟨_, _, _, _, _, _, h, _⟩ := this; exact h) (by have := HI.out; obtain ⟨_, _, _, _, _, h, _, _⟩ := this; exact h) HI.out.2.2.1.lt
        (fun a ha hne => by
          obtain ⟨b, off, e, hc⟩ := HI.out.2.2.2.1 hne
          obtain ⟨o, ho⟩ : ∃ o, L[0]? = some o := ⟨L[0]'(by have := List.length_pos_iff.2 hne; omega), List.getElem?_eq_getElem _⟩
          have := World.block_lt_of_cell? w3 _ (hc 0 o ho).1
          rw [ha] at e; cases e; exact this) HOWN.out hws
      have HCALL := Lib.hid hcall
      clear hcall
      go_wp2_with fail
      refine HCALL.out.mono ?_
      rintro e w4 ⟨rfl, O, hO, hG, hOA, hb4⟩
      have HB4 := Lib.hid hb4
      clear HCALL hb4
      go_wp2
      refine bodyPost_ret (v := .tuple #[.slice oa L.length oc, .int .i64 0]) (by simp [results, Try.results8, go_sem]) rfl ⟨oa, oc, O, by rw [hO], hG, hOA, ?_⟩
      exact (HI.out.2.2.2.2.1.trans (HB.out.mono HI.out.2.2.2.2.1.size)).trans (HB4.out.mono HI.out.2.2.2.2.1.size)
end Go.Proofs.Ytaodgbeobdholaa.Rn
