/-
  The walk through run's Check.
-/
import Derived.Test.YtaodgbeobdholaaRunModel
import Derived.Test.YtaodgbeobdholaaIntMap
import Derived.Lib.Hide
namespace Go.Proofs.Ytaodgbeobdholaa.Rn
open Go Go.RowKit Mem

/-- a slice value whose elements read as the events -/
def EvsAt (w : World) (ao : Option Addr) (L : List Ev) : Prop :=
  L ≠ [] → ∃ b off, ao = some ⟨b, off, none⟩ ∧ ∀ k e, L[k]? = some e → w.cell? ⟨b, off + k * 3, none⟩ = some (.int .i64 e.proc) ∧ w.cell? ⟨b, off + k * 3 + 1, none⟩ = some (.int .i64 e.kind) ∧
    w.cell? ⟨b, off + k * 3 + 2, none⟩ = some (.int .i64 e.msg)
theorem EvsAt.later {w w' : World} {ao : Option Addr} {L : List Ev} (h : EvsAt w ao L) (hb : Below w.heap.size w w') : EvsAt w' ao L := by
  intro hne
  obtain ⟨b, off, e, hc⟩ := h hne
  refine ⟨b, off, e, fun k o ho => ?_⟩
  obtain ⟨c0, c1, c2⟩ := hc k o ho
  have hl := World.block_lt_of_cell? w _ c0
  exact ⟨(hb.cell (p := ⟨b, off + k * 3, none⟩) hl).trans c0, (hb.cell (p := ⟨b, off + k * 3 + 1, none⟩) hl).trans c1, (hb.cell (p := ⟨b, off + k * 3 + 2, none⟩) hl).trans c2⟩

theorem zero3 (w : World) : (zeroValue 3).run Try.prog w = .ok (.int .i64 0) w := by kernel_rfl
theorem wf64 (k : Int) (h0 : 0 ≤ k) (h1 : k < 9223372036854775808) : (Lit.int .i64 k).wf = true := by
  have e1 : IntKind.i64.min = -9223372036854775808 := rfl
  have e2 : IntKind.i64.max = 9223372036854775807 := rfl
  simp [Lit.wf, e1, e2]
  omega

/-- what is left of Check when k events are done -/
def ChkS (n : Int) (L : List Ev) (k : Nat) (f : Int → Int) : Prop := chk n (fun _ => 0) L = chk n f (L.drop k) ∧ ∀ x, 0 ≤ f x ∧ f x ≤ k

set_option maxRecDepth 100000 in
set_option maxHeartbeats 2000000 in
theorem check_any (n : Int) (ao : Option Addr) (cap : Nat) (L : List Ev) (w : World) (hL : EvsAt w ao L) :
    Calls Try.prog 18 #[.int .i64 n, .slice ao L.length cap] w fun e w' => e = .returned (.int .i64 (check n L)) ∧ Below w.heap.size w w' := by
  have hmm := @run_makeMap Try.prog
  have HL := Lib.hid hL
  clear hL
  by_cases h1 : n < 1
  · have H : Hid (check n L = 1) := Lib.hid (by unfold check; rw [if_pos (by omega)])
    go_enter Try.func18, Try.ntmps18
    go_wp2
    go_ret
    exact ⟨by rw [H.out]; rfl, Below.refl _ _⟩
  by_cases h2 : 6 < n
  · have H : Hid (check n L = 1) := Lib.hid (by unfold check; rw [if_pos (by omega)])
    go_enter Try.func18, Try.ntmps18
    go_wp2
    go_ret
    exact ⟨by rw [H.out]; rfl, Below.refl _ _⟩
  by_cases h3 : 30 < L.length
  · have H : Hid (check n L = 1) := Lib.hid (by unfold check; rw [if_pos (by omega)])
    have h4 : (30 : Int) < L.length := by omega
    clear h3
    go_enter Try.func18, Try.ntmps18
    go_wp2
    go_ret
    exact ⟨by rw [H.out]; rfl, Below.refl _ _⟩
  have H : Hid (check n L = chk n (fun _ => 0) L) := Lib.hid (by unfold check; rw [if_neg (by omega)])
  have h4 : (L.length : Int) ≤ 30 := by omega
  go_enter Try.func18, Try.ntmps18
  go_wp2
  go_loopw [22] (fun i wr => ∃ (k : Nat) (f : Int → Int), k ≤ L.length ∧ i = .int .i64 k ∧ ChkS n L k f ∧ IMap Try.prog .i64 3 wr w.heap.size k f ∧ Below w.heap.size w wr) (fun i _ => L.length - (intOf i).toNat)
  case atStart => exact ⟨0, fun _ => 0, Nat.zero_le _, rfl, ⟨rfl, fun _ => ⟨Int.le_refl _, Int.le_refl _⟩⟩, IMap.made _ _ _ _, (Below.refl _ _).alloc (Nat.le_refl _) _⟩
  case round =>
    obtain ⟨k, f, hk, rfl, ⟨hchk, hf⟩, hmap, hb⟩ := hrel
    by_cases hlt : k < L.length
    · obtain ⟨o, ho⟩ : ∃ a, L[k]? = some a := ⟨L[k], List.getElem?_eq_getElem hlt⟩
      obtain ⟨b, off, hao, hcells⟩ := (HL.out.later hb) (by intro e; rw [e] at hlt; simp at hlt)
      obtain ⟨r0, r1, r2⟩ := hcells k o ho
      subst hao
      rw [drop_get ho] at hchk
      have HB := Lib.hid hb
      have HM := Lib.hid hmap
      have HF := Lib.hid hf
      clear hb hcells ho hmap hf
      rw [chk_cons] at hchk
      by_cases c1 : o.proc < 0 ∨ n ≤ o.proc
      · rw [if_pos c1] at hchk
        have HC := Lib.hid hchk
        clear hchk
        by_cases c2 : o.proc < 0
        · clear c1
          go_wp2
          go_ret
          exact ⟨by rw [H.out, HC.out]; rfl, HB.out.alloc HB.out.size _⟩
        · have c3 : n ≤ o.proc := by omega
          clear c1
          go_wp2
          go_ret
          exact ⟨by rw [H.out, HC.out]; rfl, HB.out.alloc HB.out.size _⟩
      rw [if_neg c1] at hchk
      have c2 : ¬ o.proc < 0 := by omega
      have c3 : ¬ n ≤ o.proc := by omega
      clear c1
      by_cases d1 : o.kind < 1 ∨ 3 < o.kind
      · rw [if_pos d1] at hchk
        have HC := Lib.hid hchk
        clear hchk
        by_cases d2 : o.kind < 1
        · clear d1
          go_wp2
          go_ret
          exact ⟨by rw [H.out, HC.out]; rfl, HB.out.alloc HB.out.size _⟩
        · have d3 : 3 < o.kind := by omega
          clear d1
          go_wp2
          go_ret
          exact ⟨by rw [H.out, HC.out]; rfl, HB.out.alloc HB.out.size _⟩
      rw [if_neg d1] at hchk
      have d2 : ¬ o.kind < 1 := by omega
      have d3 : ¬ 3 < o.kind := by omega
      clear d1
      by_cases e1 : o.kind = 1
      · rw [if_pos e1] at hchk
        have HC := Lib.hid hchk
        clear hchk
        go_wp2
        go_roundw
        case rel => exact ⟨k + 1, f, by omega, by go_num, ⟨HC.out, fun x => by have := HF.out x; omega⟩, HM.out.more.alloc _, HB.out.alloc HB.out.size _⟩
        case measure => simp [intOf]; omega
      rw [if_neg e1] at hchk
      by_cases m1 : o.msg < 0 ∨ 20 < o.msg
      · rw [if_pos m1] at hchk
        have HC := Lib.hid hchk
        clear hchk
        by_cases m2 : o.msg < 0
        · clear m1
          go_wp2
          go_ret
          exact ⟨by rw [H.out, HC.out]; rfl, HB.out.alloc HB.out.size _⟩
        · have m3 : 20 < o.msg := by omega
          clear m1
          go_wp2
          go_ret
          exact ⟨by rw [H.out, HC.out]; rfl, HB.out.alloc HB.out.size _⟩
      rw [if_neg m1] at hchk
      have m2 : ¬ o.msg < 0 := by omega
      have m3 : ¬ 20 < o.msg := by omega
      clear m1
      have hfm := HF.out o.msg
      have hlk := (HM.out.alloc (.cells #[.int .i64 o.proc, .int .i64 o.kind, .int .i64 o.msg] 45)).lookup Try.underlying3 Try.underlying71 Try.underlying3 (zero3 _) (wf64 o.msg (by omega) (by omega))
      by_cases s1 : f o.msg = o.kind - 2
      · rw [if_neg (by simpa using s1)] at hchk
        have HC := Lib.hid hchk
        clear hchk
        obtain ⟨w3, hr3, hm3, hg3⟩ := (HM.out.alloc (.cells #[.int .i64 o.proc, .int .i64 o.kind, .int .i64 o.msg] 45)).update Try.underlying3 Try.underlying71 Try.underlying3 (by unfold maxLen; omega) (k := o.msg) (v := o.kind - 2 + 1) (wf64 o.msg (by omega) (by omega)) (wf64 _ (by omega) (by omega))
        rw [show upd f o.msg (o.kind - 2 + 1) = upF f o.msg (f o.msg + 1) by rw [s1]; rfl] at hm3
        have HM3 := Lib.hid hm3
        have HG3 := Lib.hid hg3
        clear hm3 hg3
        go_wp2
        go_roundw
        case rel => exact ⟨k + 1, _, by omega, by go_num, ⟨HC.out, fun x => by have := HF.out x; unfold upF; split <;> omega⟩, HM3.out, (HB.out.alloc HB.out.size _).grown HG3.out (by have := HB.out.size; simp; omega) (by intro j hj; cases hj; exact Nat.le_refl _)⟩
        case measure => simp [intOf]; omega
      · rw [if_pos (by simpa using s1)] at hchk
        have HC := Lib.hid hchk
        clear hchk
        go_wp2
        go_ret
        exact ⟨by rw [H.out, HC.out]; rfl, HB.out.alloc HB.out.size _⟩
    · have hkl : k = L.length := by omega
      have HC : Hid (chk n (fun _ => 0) L = 0) := Lib.hid (by rw [hchk, hkl, List.drop_length]; rfl)
      have HB := Lib.hid hb
      clear hchk hb hmap hf
      go_wp2
      go_ret
      exact ⟨by rw [H.out, HC.out]; rfl, HB.out⟩
end Go.Proofs.Ytaodgbeobdholaa.Rn
