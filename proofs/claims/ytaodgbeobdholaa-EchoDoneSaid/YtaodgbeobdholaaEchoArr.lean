/-
  Links: equality of pairs; the walks through slices.Index and slices.Contains at pairs.
-/
import Derived.Test.YtaodgbeobdholaaEchoTake
import Derived.Deep.QuietTactic
import Derived.BigQuiet
namespace Go.Proofs.Ytaodgbeobdholaa.Ec
open Go Go.RowKit Mem

def TwoV (a b : Int) : Value := .agg #[.int .i64 a, .int .i64 b]
theorem eq3 (a b : Int) (w : World) : (Op.equalIn 9999 3 (.int .i64 a) (.int .i64 b)).run Try.prog w = .ok (a == b) w :=
  run_equalIn_int w 9998 3 .i64 .i64 a b Try.underlying3
theorem part0 (a b : Int) (w : World) : (part 3 #[.int .i64 a, .int .i64 b] 0).run Try.prog w = .ok (.int .i64 a) w := by kernel_rfl
theorem part1 (a b : Int) (w : World) : (part 3 #[.int .i64 a, .int .i64 b] 1).run Try.prog w = .ok (.int .i64 b) w := by kernel_rfl
theorem equal_run (d l d' l' : Int) (w : World) : (Op.equal 38 (TwoV d l) (TwoV d' l')).run Try.prog w = .ok (d == d' && l == l') w := by
  show (Op.equalIn (9998 + 1 + 1) 38 (TwoV d l) (TwoV d' l')).run Try.prog w = _
  rw [Op.equalIn]
  simp [TwoV, run_underlying Try.underlying38]
  rw [show List.range' 0 2 = [0, 1] from rfl]
  simp only [List.forIn_cons, List.forIn_nil, Sem.run_bind, part0, part1, Result.andThen_ok, eq3]
  by_cases h : d = d'
  · subst h
    simp [part1, part0, eq3]
    by_cases h2 : l = l'
    · subst h2
      simp
    · simp [h2]
  · simp [h]
theorem eql_run (a b c d : Int) (w : World) : (binOp .eql 38 (.agg #[.int .i64 a, .int .i64 b]) (.agg #[.int .i64 c, .int .i64 d])).run Try.prog w = .ok (.bool (a == c && b == d)) w := by
  have h : (Op.equalIn 10000 38 (.agg #[.int .i64 a, .int .i64 b]) (.agg #[.int .i64 c, .int .i64 d])).run Try.prog w = _ := equal_run a b c d w
  rw [run_eql_struct, h]
  rfl
/-- a slice value whose elements read as the links -/
def LinksAt (w : World) (ao : Option Addr) (L : List (Int × Int)) : Prop :=
  L ≠ [] → ∃ b off, ao = some ⟨b, off, none⟩ ∧ ∀ k l, L[k]? = some l → w.cell? ⟨b, off + k * 2, none⟩ = some (.int .i64 l.1) ∧ w.cell? ⟨b, off + k * 2 + 1, none⟩ = some (.int .i64 l.2)
theorem LinksAt.later {w w' : World} {ao : Option Addr} {L : List (Int × Int)} (h : LinksAt w ao L) (hb : Below w.heap.size w w') : LinksAt w' ao L := by
  intro hne
  obtain ⟨b, off, e, hc⟩ := h hne
  refine ⟨b, off, e, fun k o ho => ?_⟩
  obtain ⟨c0, c1⟩ := hc k o ho
  have hl := World.block_lt_of_cell? w _ c0
  exact ⟨(hb.cell (p := ⟨b, off + k * 2, none⟩) hl).trans c0, (hb.cell (p := ⟨b, off + k * 2 + 1, none⟩) hl).trans c1⟩
theorem LinksAt.take {w : World} {ao : Option Addr} {L : List (Int × Int)} (h : LinksAt w ao L) (k : Nat) : LinksAt w ao (L.take k) := by
  intro hne
  obtain ⟨b, off, e, hc⟩ := h (by rintro rfl; simp at hne)
  refine ⟨b, off, e, fun q l hq => hc q l ?_⟩
  rw [List.getElem?_take] at hq
  split at hq
  · exact hq
  · cases hq

set_option maxHeartbeats 2000000 in
theorem index_any (ao : Option Addr) (cap : Nat) (L : List (Int × Int)) (a b : Int) (w : World) (hl : L.length ≤ 60) (hL : LinksAt w ao L) :
    Calls Try.prog 57 #[.slice ao L.length cap, .agg #[.int .i64 a, .int .i64 b]] w fun e w' => (∃ r : Int, e = .returned (.int .i64 r) ∧ (0 ≤ r ↔ (a, b) ∈ L)) ∧ Below w.heap.size w w' := by
  have HL := Lib.hid hL
  clear hL
  go_enter Try.func57, Try.ntmps57
  go_wp2
  go_loopw [8] (fun i wr => ∃ k q : Nat, k ≤ L.length ∧ i = .int .i64 k ∧ (a, b) ∉ L.take k ∧ wr = (w.alloc (.cells #[.int .i64 a, .int .i64 b] 38)).drewN q) (fun i _ => L.length - (intOf i).toNat)
  case atStart => exact ⟨0, 0, Nat.zero_le _, rfl, by simp, rfl⟩
  case round =>
    obtain ⟨k, q, hk, rfl, hno, rfl⟩ := hrel
    have HN := Lib.hid hno
    clear hno
    by_cases hlt : k < L.length
    · obtain ⟨l, hlk⟩ : ∃ l, L[k]? = some l := ⟨L[k], List.getElem?_eq_getElem hlt⟩
      obtain ⟨x, y⟩ := l
      obtain ⟨bb, off, rfl, hc⟩ := HL.out (by intro e; rw [e] at hlt; simp at hlt)
      obtain ⟨r0, r1⟩ := hc k _ hlk
      have hbl := World.block_lt_of_cell? w _ r0
      simp at hbl
      have HK := Lib.hid hlk
      clear hc hlk
      have heq := eql_run a b x y
      by_cases hxy : a = x ∧ b = y
      · obtain ⟨rfl, rfl⟩ := hxy
        simp at heq
        go_wp2
        go_quiet (fail)
        go_wp2
        go_ret
        refine ⟨⟨k, rfl, fun _ => List.mem_of_getElem? HK.out, fun _ => by omega⟩, ?_⟩
        have h0 : Below w.heap.size w (w.alloc (.cells #[.int .i64 a, .int .i64 b] 38)) := (Below.refl _ _).alloc (Nat.le_refl _) _
        exact ⟨h0.os, h0.tape, h0.output, h0.size, h0.block⟩
      · have hd : (a == x && b == y) = false := by
          cases h1 : (a == x && b == y) with
          | false => rfl
          | true => simp at h1; exact absurd h1 hxy
        simp only [hd] at heq
        have HXY := Lib.hid hxy
        clear hxy hd
        go_wp2
        go_quiet (fail)
        go_wp2
        go_roundw
        case rel =>
          refine ⟨k + 1, q + nq, by omega, by go_num, ?_, by first | rfl | (simp [World.drewN_drewN]) | (rw [World.drewN_add])⟩
          have : L.take (k + 1) = L.take k ++ [(x, y)] := by rw [List.take_add_one, HK.out]; rfl
          rw [this]
          intro hm
          rcases List.mem_append.1 hm with hm | hm
          · exact HN.out hm
          · simp at hm; exact HXY.out hm
        case measure => simp [intOf]; omega
    · obtain rfl : k = L.length := by omega
      go_wp2
      go_ret
      refine ⟨⟨-1, rfl, fun h => absurd h (by omega), fun h => absurd (by rw [List.take_length]; exact h) HN.out⟩, ?_⟩
      have h0 : Below w.heap.size w (w.alloc (.cells #[.int .i64 a, .int .i64 b] 38)) := (Below.refl _ _).alloc (Nat.le_refl _) _
      exact ⟨h0.os, h0.tape, h0.output, h0.size, h0.block⟩

set_option maxHeartbeats 2000000 in
theorem contains_any (ao : Option Addr) (cap : Nat) (L : List (Int × Int)) (a b : Int) (w : World) (hl : L.length ≤ 60) (hL : LinksAt w ao L) :
    Calls Try.prog 41 #[.slice ao L.length cap, .agg #[.int .i64 a, .int .i64 b]] w fun e w' => e = .returned (.bool (decide ((a, b) ∈ L))) ∧ Below w.heap.size w w' := by
  have HL := Lib.hid hL
  clear hL
  go_enter Try.func41, Try.ntmps41
  go_wp2_with fail
  refine (index_any ao cap L a b _ hl (HL.out.later ((Below.refl _ _).alloc (Nat.le_refl _) _))).mono ?_
  rintro e w1 ⟨⟨r, rfl, hr⟩, hb⟩
  have HB := Lib.hid (((Below.refl w.heap.size w).alloc (Nat.le_refl _) (.cells #[.int .i64 a, .int .i64 b] 38)).trans (hb.mono (by simp)))
  have HR : Hid (decide (0 ≤ r) = decide ((a, b) ∈ L)) := Lib.hid (by rw [decide_eq_decide]; exact hr)
  clear hb hr
  go_wp2
  go_ret
  exact ⟨congrArg (fun b => Ending.returned (.bool b)) HR.out, HB.out⟩
end Go.Proofs.Ytaodgbeobdholaa.Ec
