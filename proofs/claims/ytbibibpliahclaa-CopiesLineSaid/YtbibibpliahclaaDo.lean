/-
  The walk through (*all).do: it computes 'step' of the plain model, way by way.
-/
import Derived.Test.YtbibibpliahclaaReachAll
import Derived.Test.YtbibibpliahclaaFresh
namespace Go.Proofs.Ytbibibpliahclaa.Cp
open Go Go.RowKit Mem

theorem bit_test (x t : Nat) (hx : x < 64) : (bits BinOp.and IntKind.u32 ((x : Int) / 2 ^ t) 1 == 1) = bit x t := by
  have e : ((x : Int) / 2 ^ t) = ((x / 2 ^ t : Nat) : Int) := by simp
  have hl : x / 2 ^ t ≤ x := Nat.div_le_self _ _
  rw [e, show (1 : Int) = ((1 : Nat) : Int) from rfl, u32_and_nat _ _ (by omega) (by omega), Nat.and_one_is_mod]
  unfold bit
  rw [Bool.eq_iff_iff]
  simp
  omega


set_option maxRecDepth 100000 in
set_option maxHeartbeats 2000000 in
theorem do_kind {B ba bl : Nat} {ov : Value} {s : St} {w : World} (kind frm to : Int) (val now : Int) (h : Rep B ba bl ov s w) (hn : s.l.length ≤ 6) (hk : kind < 1 ∨ 3 < kind) :
    Calls Try.prog 7 #[.pointer (some ⟨ba, 0, none⟩), .agg #[.int .i64 kind, .int .i64 frm, .int .i64 to, .int .i64 val], .int .i64 now] w fun e w' => e = .returned (.int .i64 6) ∧ (∃ ov', Rep B ba bl ov' s w' ∧ Lat w ov ov') ∧ Fr ba bl ov w w' := by
  have c0 : w.cell? ⟨ba, 0, none⟩ = some (.slice (some ⟨bl, 0, none⟩) s.l.length s.l.length) := h.all.cell rfl
  have c1 : w.cell? ⟨ba, 1, none⟩ = some (.int .u32 s.failed) := h.all.cell rfl
  have hz := h.all.frozen
  have hlA := h.all.lt
  have hlL := h.kept.lt
  have hlo := h.loa
  have hlol := h.lol
  have HR := Lib.hid h
  clear h
  rcases hk with hk | hk
  · skip
    by_cases hto : 0 ≤ to
    · skip
      go_enter Try.func7, Try.ntmps7
      go_wp2
      all_goals (try go_quiet (fail))
      all_goals (try go_wp2)
      all_goals (try go_quiet (fail))
      all_goals (try go_wp2)
      all_goals go_ret
      all_goals exact ⟨(by first | rfl | exact trivial), ⟨ov, by repeat (first | with_reducible exact HR.out | with_reducible refine Rep.drewN ?_ _ | with_reducible refine Rep.drew ?_ | with_reducible refine Rep.alloc ?_ _), Lat.refl _ _⟩, by repeat (first | with_reducible exact Fr.refl _ _ _ _ | with_reducible assumption | with_reducible refine Fr.setA ?_ _ _ | with_reducible refine Fr.setL ?_ _ _ | with_reducible refine Fr.drewN ?_ _ | with_reducible refine Fr.drew ?_ | with_reducible refine Fr.alloc ?_ _)⟩
    · have hto2 : to < 0 := by omega
      have hd : decide ((0 : Int) ≤ to) = false := by simpa using hto2
      clear hto
      go_enter Try.func7, Try.ntmps7
      go_wp2
      all_goals (try go_quiet (fail))
      all_goals (try go_wp2)
      all_goals (try go_quiet (fail))
      all_goals (try go_wp2)
      all_goals go_ret
      all_goals exact ⟨(by first | rfl | exact trivial), ⟨ov, by repeat (first | with_reducible exact HR.out | with_reducible refine Rep.drewN ?_ _ | with_reducible refine Rep.drew ?_ | with_reducible refine Rep.alloc ?_ _), Lat.refl _ _⟩, by repeat (first | with_reducible exact Fr.refl _ _ _ _ | with_reducible assumption | with_reducible refine Fr.setA ?_ _ _ | with_reducible refine Fr.setL ?_ _ _ | with_reducible refine Fr.drewN ?_ _ | with_reducible refine Fr.drew ?_ | with_reducible refine Fr.alloc ?_ _)⟩
  · skip
    by_cases hto : 0 ≤ to
    · skip
      go_enter Try.func7, Try.ntmps7
      go_wp2
      all_goals (try go_quiet (fail))
      all_goals (try go_wp2)
      all_goals (try go_quiet (fail))
      all_goals (try go_wp2)
      all_goals go_ret
      all_goals exact ⟨(by first | rfl | exact trivial), ⟨ov, by repeat (first | with_reducible exact HR.out | with_reducible refine Rep.drewN ?_ _ | with_reducible refine Rep.drew ?_ | with_reducible refine Rep.alloc ?_ _), Lat.refl _ _⟩, by repeat (first | with_reducible exact Fr.refl _ _ _ _ | with_reducible assumption | with_reducible refine Fr.setA ?_ _ _ | with_reducible refine Fr.setL ?_ _ _ | with_reducible refine Fr.drewN ?_ _ | with_reducible refine Fr.drew ?_ | with_reducible refine Fr.alloc ?_ _)⟩
    · have hto2 : to < 0 := by omega
      have hd : decide ((0 : Int) ≤ to) = false := by simpa using hto2
      clear hto
      go_enter Try.func7, Try.ntmps7
      go_wp2
      all_goals (try go_quiet (fail))
      all_goals (try go_wp2)
      all_goals (try go_quiet (fail))
      all_goals (try go_wp2)
      all_goals go_ret
      all_goals exact ⟨(by first | rfl | exact trivial), ⟨ov, by repeat (first | with_reducible exact HR.out | with_reducible refine Rep.drewN ?_ _ | with_reducible refine Rep.drew ?_ | with_reducible refine Rep.alloc ?_ _), Lat.refl _ _⟩, by repeat (first | with_reducible exact Fr.refl _ _ _ _ | with_reducible assumption | with_reducible refine Fr.setA ?_ _ _ | with_reducible refine Fr.setL ?_ _ _ | with_reducible refine Fr.drewN ?_ _ | with_reducible refine Fr.drew ?_ | with_reducible refine Fr.alloc ?_ _)⟩

set_option maxRecDepth 100000 in
set_option maxHeartbeats 2000000 in
theorem do_arg1 {B ba bl : Nat} {ov : Value} {s : St} {w : World} (frm to : Int) (val now : Int) (h : Rep B ba bl ov s w) (hn : s.l.length ≤ 6) (hk : frm < 0 ∨ 6 ≤ frm) :
    Calls Try.prog 7 #[.pointer (some ⟨ba, 0, none⟩), .agg #[.int .i64 1, .int .i64 frm, .int .i64 to, .int .i64 val], .int .i64 now] w fun e w' => e = .returned (.int .i64 2) ∧ (∃ ov', Rep B ba bl ov' s w' ∧ Lat w ov ov') ∧ Fr ba bl ov w w' := by
  have c0 : w.cell? ⟨ba, 0, none⟩ = some (.slice (some ⟨bl, 0, none⟩) s.l.length s.l.length) := h.all.cell rfl
  have c1 : w.cell? ⟨ba, 1, none⟩ = some (.int .u32 s.failed) := h.all.cell rfl
  have hz := h.all.frozen
  have hlA := h.all.lt
  have hlL := h.kept.lt
  have hlo := h.loa
  have hlol := h.lol
  have HR := Lib.hid h
  clear h
  rcases hk with hk | hk
  · skip
    by_cases hto : 0 ≤ to
    · skip
      go_enter Try.func7, Try.ntmps7
      go_wp2
      all_goals (try go_quiet (fail))
      all_goals (try go_wp2)
      all_goals (try go_quiet (fail))
      all_goals (try go_wp2)
      all_goals go_ret
      all_goals exact ⟨(by first | rfl | exact trivial), ⟨ov, by repeat (first | with_reducible exact HR.out | with_reducible refine Rep.drewN ?_ _ | with_reducible refine Rep.drew ?_ | with_reducible refine Rep.alloc ?_ _), Lat.refl _ _⟩, by repeat (first | with_reducible exact Fr.refl _ _ _ _ | with_reducible assumption | with_reducible refine Fr.setA ?_ _ _ | with_reducible refine Fr.setL ?_ _ _ | with_reducible refine Fr.drewN ?_ _ | with_reducible refine Fr.drew ?_ | with_reducible refine Fr.alloc ?_ _)⟩
    · have hto2 : to < 0 := by omega
      have hd : decide ((0 : Int) ≤ to) = false := by simpa using hto2
      clear hto
      go_enter Try.func7, Try.ntmps7
      go_wp2
      all_goals (try go_quiet (fail))
      all_goals (try go_wp2)
      all_goals (try go_quiet (fail))
      all_goals (try go_wp2)
      all_goals go_ret
      all_goals exact ⟨(by first | rfl | exact trivial), ⟨ov, by repeat (first | with_reducible exact HR.out | with_reducible refine Rep.drewN ?_ _ | with_reducible refine Rep.drew ?_ | with_reducible refine Rep.alloc ?_ _), Lat.refl _ _⟩, by repeat (first | with_reducible exact Fr.refl _ _ _ _ | with_reducible assumption | with_reducible refine Fr.setA ?_ _ _ | with_reducible refine Fr.setL ?_ _ _ | with_reducible refine Fr.drewN ?_ _ | with_reducible refine Fr.drew ?_ | with_reducible refine Fr.alloc ?_ _)⟩
  · skip
    by_cases hto : 0 ≤ to
    · skip
      go_enter Try.func7, Try.ntmps7
      go_wp2
      all_goals (try go_quiet (fail))
      all_goals (try go_wp2)
      all_goals (try go_quiet (fail))
      all_goals (try go_wp2)
      all_goals go_ret
      all_goals exact ⟨(by first | rfl | exact trivial), ⟨ov, by repeat (first | with_reducible exact HR.out | with_reducible refine Rep.drewN ?_ _ | with_reducible refine Rep.drew ?_ | with_reducible refine Rep.alloc ?_ _), Lat.refl _ _⟩, by repeat (first | with_reducible exact Fr.refl _ _ _ _ | with_reducible assumption | with_reducible refine Fr.setA ?_ _ _ | with_reducible refine Fr.setL ?_ _ _ | with_reducible refine Fr.drewN ?_ _ | with_reducible refine Fr.drew ?_ | with_reducible refine Fr.alloc ?_ _)⟩
    · have hto2 : to < 0 := by omega
      have hd : decide ((0 : Int) ≤ to) = false := by simpa using hto2
      clear hto
      go_enter Try.func7, Try.ntmps7
      go_wp2
      all_goals (try go_quiet (fail))
      all_goals (try go_wp2)
      all_goals (try go_quiet (fail))
      all_goals (try go_wp2)
      all_goals go_ret
      all_goals exact ⟨(by first | rfl | exact trivial), ⟨ov, by repeat (first | with_reducible exact HR.out | with_reducible refine Rep.drewN ?_ _ | with_reducible refine Rep.drew ?_ | with_reducible refine Rep.alloc ?_ _), Lat.refl _ _⟩, by repeat (first | with_reducible exact Fr.refl _ _ _ _ | with_reducible assumption | with_reducible refine Fr.setA ?_ _ _ | with_reducible refine Fr.setL ?_ _ _ | with_reducible refine Fr.drewN ?_ _ | with_reducible refine Fr.drew ?_ | with_reducible refine Fr.alloc ?_ _)⟩

set_option maxRecDepth 100000 in
set_option maxHeartbeats 2000000 in
theorem do_arg2a {B ba bl : Nat} {ov : Value} {s : St} {w : World} (frm to : Int) (val now : Int) (h : Rep B ba bl ov s w) (hn : s.l.length ≤ 6) (hk : frm < 0 ∨ 6 ≤ frm) :
    Calls Try.prog 7 #[.pointer (some ⟨ba, 0, none⟩), .agg #[.int .i64 2, .int .i64 frm, .int .i64 to, .int .i64 val], .int .i64 now] w fun e w' => e = .returned (.int .i64 2) ∧ (∃ ov', Rep B ba bl ov' s w' ∧ Lat w ov ov') ∧ Fr ba bl ov w w' := by
  have c0 : w.cell? ⟨ba, 0, none⟩ = some (.slice (some ⟨bl, 0, none⟩) s.l.length s.l.length) := h.all.cell rfl
  have c1 : w.cell? ⟨ba, 1, none⟩ = some (.int .u32 s.failed) := h.all.cell rfl
  have hz := h.all.frozen
  have hlA := h.all.lt
  have hlL := h.kept.lt
  have hlo := h.loa
  have hlol := h.lol
  have HR := Lib.hid h
  clear h
  rcases hk with hk | hk
  · skip
    by_cases hto : 0 ≤ to
    · skip
      go_enter Try.func7, Try.ntmps7
      go_wp2
      all_goals (try go_quiet (fail))
      all_goals (try go_wp2)
      all_goals (try go_quiet (fail))
      all_goals (try go_wp2)
      all_goals go_ret
      all_goals exact ⟨(by first | rfl | exact trivial), ⟨ov, by repeat (first | with_reducible exact HR.out | with_reducible refine Rep.drewN ?_ _ | with_reducible refine Rep.drew ?_ | with_reducible refine Rep.alloc ?_ _), Lat.refl _ _⟩, by repeat (first | with_reducible exact Fr.refl _ _ _ _ | with_reducible assumption | with_reducible refine Fr.setA ?_ _ _ | with_reducible refine Fr.setL ?_ _ _ | with_reducible refine Fr.drewN ?_ _ | with_reducible refine Fr.drew ?_ | with_reducible refine Fr.alloc ?_ _)⟩
    · have hto2 : to < 0 := by omega
      have hd : decide ((0 : Int) ≤ to) = false := by simpa using hto2
      clear hto
      go_enter Try.func7, Try.ntmps7
      go_wp2
      all_goals (try go_quiet (fail))
      all_goals (try go_wp2)
      all_goals (try go_quiet (fail))
      all_goals (try go_wp2)
      all_goals go_ret
      all_goals exact ⟨(by first | rfl | exact trivial), ⟨ov, by repeat (first | with_reducible exact HR.out | with_reducible refine Rep.drewN ?_ _ | with_reducible refine Rep.drew ?_ | with_reducible refine Rep.alloc ?_ _), Lat.refl _ _⟩, by repeat (first | with_reducible exact Fr.refl _ _ _ _ | with_reducible assumption | with_reducible refine Fr.setA ?_ _ _ | with_reducible refine Fr.setL ?_ _ _ | with_reducible refine Fr.drewN ?_ _ | with_reducible refine Fr.drew ?_ | with_reducible refine Fr.alloc ?_ _)⟩
  · skip
    by_cases hto : 0 ≤ to
    · skip
      go_enter Try.func7, Try.ntmps7
      go_wp2
      all_goals (try go_quiet (fail))
      all_goals (try go_wp2)
      all_goals (try go_quiet (fail))
      all_goals (try go_wp2)
      all_goals go_ret
      all_goals exact ⟨(by first | rfl | exact trivial), ⟨ov, by repeat (first | with_reducible exact HR.out | with_reducible refine Rep.drewN ?_ _ | with_reducible refine Rep.drew ?_ | with_reducible refine Rep.alloc ?_ _), Lat.refl _ _⟩, by repeat (first | with_reducible exact Fr.refl _ _ _ _ | with_reducible assumption | with_reducible refine Fr.setA ?_ _ _ | with_reducible refine Fr.setL ?_ _ _ | with_reducible refine Fr.drewN ?_ _ | with_reducible refine Fr.drew ?_ | with_reducible refine Fr.alloc ?_ _)⟩
    · have hto2 : to < 0 := by omega
      have hd : decide ((0 : Int) ≤ to) = false := by simpa using hto2
      clear hto
      go_enter Try.func7, Try.ntmps7
      go_wp2
      all_goals (try go_quiet (fail))
      all_goals (try go_wp2)
      all_goals (try go_quiet (fail))
      all_goals (try go_wp2)
      all_goals go_ret
      all_goals exact ⟨(by first | rfl | exact trivial), ⟨ov, by repeat (first | with_reducible exact HR.out | with_reducible refine Rep.drewN ?_ _ | with_reducible refine Rep.drew ?_ | with_reducible refine Rep.alloc ?_ _), Lat.refl _ _⟩, by repeat (first | with_reducible exact Fr.refl _ _ _ _ | with_reducible assumption | with_reducible refine Fr.setA ?_ _ _ | with_reducible refine Fr.setL ?_ _ _ | with_reducible refine Fr.drewN ?_ _ | with_reducible refine Fr.drew ?_ | with_reducible refine Fr.alloc ?_ _)⟩

set_option maxRecDepth 100000 in
set_option maxHeartbeats 2000000 in
theorem do_arg2b {B ba bl : Nat} {ov : Value} {s : St} {w : World} (frm to : Int) (val now : Int) (h : Rep B ba bl ov s w) (hn : s.l.length ≤ 6) (hk : to < 0 ∨ s.l.length ≤ to) (h0 : 0 ≤ frm) (h6 : frm < 6) :
    Calls Try.prog 7 #[.pointer (some ⟨ba, 0, none⟩), .agg #[.int .i64 2, .int .i64 frm, .int .i64 to, .int .i64 val], .int .i64 now] w fun e w' => e = .returned (.int .i64 2) ∧ (∃ ov', Rep B ba bl ov' s w' ∧ Lat w ov ov') ∧ Fr ba bl ov w w' := by
  have c0 : w.cell? ⟨ba, 0, none⟩ = some (.slice (some ⟨bl, 0, none⟩) s.l.length s.l.length) := h.all.cell rfl
  have c1 : w.cell? ⟨ba, 1, none⟩ = some (.int .u32 s.failed) := h.all.cell rfl
  have hz := h.all.frozen
  have hlA := h.all.lt
  have hlL := h.kept.lt
  have hlo := h.loa
  have hlol := h.lol
  have HR := Lib.hid h
  clear h
  rcases hk with hk | hk
  · skip
    have hd : decide ((0 : Int) ≤ to) = false := by simpa using hk
    go_enter Try.func7, Try.ntmps7
    go_wp2
    all_goals (try go_quiet (fail))
    all_goals (try go_wp2)
    all_goals (try go_quiet (fail))
    all_goals (try go_wp2)
    all_goals go_ret
    all_goals exact ⟨(by first | rfl | exact trivial), ⟨ov, by repeat (first | with_reducible exact HR.out | with_reducible refine Rep.drewN ?_ _ | with_reducible refine Rep.drew ?_ | with_reducible refine Rep.alloc ?_ _), Lat.refl _ _⟩, by repeat (first | with_reducible exact Fr.refl _ _ _ _ | with_reducible assumption | with_reducible refine Fr.setA ?_ _ _ | with_reducible refine Fr.setL ?_ _ _ | with_reducible refine Fr.drewN ?_ _ | with_reducible refine Fr.drew ?_ | with_reducible refine Fr.alloc ?_ _)⟩
  · skip
    have h0to : (0 : Int) ≤ to := by omega
    have hd2 : decide (to < (s.l.length : Int)) = false := by simpa using hk
    go_enter Try.func7, Try.ntmps7
    go_wp2
    all_goals (try go_quiet (fail))
    all_goals (try go_wp2)
    all_goals (try go_quiet (fail))
    all_goals (try go_wp2)
    all_goals go_ret
    all_goals exact ⟨(by first | rfl | exact trivial), ⟨ov, by repeat (first | with_reducible exact HR.out | with_reducible refine Rep.drewN ?_ _ | with_reducible refine Rep.drew ?_ | with_reducible refine Rep.alloc ?_ _), Lat.refl _ _⟩, by repeat (first | with_reducible exact Fr.refl _ _ _ _ | with_reducible assumption | with_reducible refine Fr.setA ?_ _ _ | with_reducible refine Fr.setL ?_ _ _ | with_reducible refine Fr.drewN ?_ _ | with_reducible refine Fr.drew ?_ | with_reducible refine Fr.alloc ?_ _)⟩

set_option maxRecDepth 100000 in
set_option maxHeartbeats 2000000 in
theorem do_arg3 {B ba bl : Nat} {ov : Value} {s : St} {w : World} (frm to : Int) (val now : Int) (h : Rep B ba bl ov s w) (hn : s.l.length ≤ 6) (hk : to < 0 ∨ s.l.length ≤ to) :
    Calls Try.prog 7 #[.pointer (some ⟨ba, 0, none⟩), .agg #[.int .i64 3, .int .i64 frm, .int .i64 to, .int .i64 val], .int .i64 now] w fun e w' => e = .returned (.int .i64 2) ∧ (∃ ov', Rep B ba bl ov' s w' ∧ Lat w ov ov') ∧ Fr ba bl ov w w' := by
  have c0 : w.cell? ⟨ba, 0, none⟩ = some (.slice (some ⟨bl, 0, none⟩) s.l.length s.l.length) := h.all.cell rfl
  have c1 : w.cell? ⟨ba, 1, none⟩ = some (.int .u32 s.failed) := h.all.cell rfl
  have hz := h.all.frozen
  have hlA := h.all.lt
  have hlL := h.kept.lt
  have hlo := h.loa
  have hlol := h.lol
  have HR := Lib.hid h
  clear h
  rcases hk with hk | hk
  · skip
    have hd : decide ((0 : Int) ≤ to) = false := by simpa using hk
    go_enter Try.func7, Try.ntmps7
    go_wp2
    all_goals (try go_quiet (fail))
    all_goals (try go_wp2)
    all_goals (try go_quiet (fail))
    all_goals (try go_wp2)
    all_goals go_ret
    all_goals exact ⟨(by first | rfl | exact trivial), ⟨ov, by repeat (first | with_reducible exact HR.out | with_reducible refine Rep.drewN ?_ _ | with_reducible refine Rep.drew ?_ | with_reducible refine Rep.alloc ?_ _), Lat.refl _ _⟩, by repeat (first | with_reducible exact Fr.refl _ _ _ _ | with_reducible assumption | with_reducible refine Fr.setA ?_ _ _ | with_reducible refine Fr.setL ?_ _ _ | with_reducible refine Fr.drewN ?_ _ | with_reducible refine Fr.drew ?_ | with_reducible refine Fr.alloc ?_ _)⟩
  · skip
    have h0to : (0 : Int) ≤ to := by omega
    have hd2 : decide (to < (s.l.length : Int)) = false := by simpa using hk
    go_enter Try.func7, Try.ntmps7
    go_wp2
    all_goals (try go_quiet (fail))
    all_goals (try go_wp2)
    all_goals (try go_quiet (fail))
    all_goals (try go_wp2)
    all_goals go_ret
    all_goals exact ⟨(by first | rfl | exact trivial), ⟨ov, by repeat (first | with_reducible exact HR.out | with_reducible refine Rep.drewN ?_ _ | with_reducible refine Rep.drew ?_ | with_reducible refine Rep.alloc ?_ _), Lat.refl _ _⟩, by repeat (first | with_reducible exact Fr.refl _ _ _ _ | with_reducible assumption | with_reducible refine Fr.setA ?_ _ _ | with_reducible refine Fr.setL ?_ _ _ | with_reducible refine Fr.drewN ?_ _ | with_reducible refine Fr.drew ?_ | with_reducible refine Fr.alloc ?_ _)⟩

set_option maxRecDepth 100000 in
set_option maxHeartbeats 2000000 in
theorem do_fail7 {B ba bl : Nat} {ov : Value} {s : St} {w : World} (frm : Int) (t : Nat) (val now : Int) (h : Rep B ba bl ov s w) (hn : s.l.length ≤ 6) (ht : t < s.l.length) (hfl : s.failed < 64) (hb : bit s.failed t = true) :
    Calls Try.prog 7 #[.pointer (some ⟨ba, 0, none⟩), .agg #[.int .i64 3, .int .i64 frm, .int .i64 t, .int .i64 val], .int .i64 now] w fun e w' => e = .returned (.int .i64 7) ∧ (∃ ov', Rep B ba bl ov' s w' ∧ Lat w ov ov') ∧ Fr ba bl ov w w' := by
  have c0 : w.cell? ⟨ba, 0, none⟩ = some (.slice (some ⟨bl, 0, none⟩) s.l.length s.l.length) := h.all.cell rfl
  have c1 : w.cell? ⟨ba, 1, none⟩ = some (.int .u32 s.failed) := h.all.cell rfl
  have hz := h.all.frozen
  have hlA := h.all.lt
  have hlL := h.kept.lt
  have hlo := h.loa
  have hlol := h.lol
  have HR := Lib.hid h
  clear h
  have hbt := bit_test s.failed t hfl
  rw [hb] at hbt
  go_enter Try.func7, Try.ntmps7
  go_wp2
  all_goals (try go_quiet (fail))
  all_goals (try go_wp2)
  all_goals (try go_quiet (fail))
  all_goals (try go_wp2)
  all_goals (try go_quiet (fail))
  all_goals (try go_wp2)
  all_goals go_ret
  all_goals exact ⟨(by first | rfl | exact trivial), ⟨ov, by repeat (first | with_reducible exact HR.out | with_reducible refine Rep.drewN ?_ _ | with_reducible refine Rep.drew ?_ | with_reducible refine Rep.alloc ?_ _), Lat.refl _ _⟩, by repeat (first | with_reducible exact Fr.refl _ _ _ _ | with_reducible assumption | with_reducible refine Fr.setA ?_ _ _ | with_reducible refine Fr.setL ?_ _ _ | with_reducible refine Fr.drewN ?_ _ | with_reducible refine Fr.drew ?_ | with_reducible refine Fr.alloc ?_ _)⟩

set_option maxRecDepth 100000 in
set_option maxHeartbeats 2000000 in
theorem do_fail0 {B ba bl : Nat} {ov : Value} {s : St} {w : World} (frm : Int) (t : Nat) (val now : Int) (h : Rep B ba bl ov s w) (hn : s.l.length ≤ 6) (ht : t < s.l.length) (hfl : s.failed < 64) (hb : bit s.failed t = false) :
    Calls Try.prog 7 #[.pointer (some ⟨ba, 0, none⟩), .agg #[.int .i64 3, .int .i64 frm, .int .i64 t, .int .i64 val], .int .i64 now] w fun e w' => e = .returned (.int .i64 0) ∧ (∃ ov', Rep B ba bl ov' { s with failed := s.failed ||| 2 ^ t } w' ∧ Lat w ov ov') ∧ Fr ba bl ov w w' := by
  have c0 : w.cell? ⟨ba, 0, none⟩ = some (.slice (some ⟨bl, 0, none⟩) s.l.length s.l.length) := h.all.cell rfl
  have c1 : w.cell? ⟨ba, 1, none⟩ = some (.int .u32 s.failed) := h.all.cell rfl
  have hz := h.all.frozen
  have hlA := h.all.lt
  have hlL := h.kept.lt
  have hlo := h.loa
  have hlol := h.lol
  have HR := Lib.hid h
  clear h
  have hbt := bit_test s.failed t hfl
  rw [hb] at hbt
  have Hor := Lib.hid (or_bit s.failed t hfl (by omega))
  go_enter Try.func7, Try.ntmps7
  go_wp2
  all_goals (try go_quiet (fail))
  all_goals (try go_wp2)
  all_goals (try go_quiet (fail))
  all_goals (try go_wp2)
  all_goals (try go_quiet (fail))
  all_goals (try go_wp2)
  all_goals go_region
  all_goals go_wp2
  all_goals go_ret
  all_goals refine ⟨(by first | rfl | exact trivial), ⟨ov, ?_, Lat.refl _ _⟩, by repeat (first | with_reducible exact Fr.refl _ _ _ _ | with_reducible assumption | with_reducible refine Fr.setA ?_ _ _ | with_reducible refine Fr.setL ?_ _ _ | with_reducible refine Fr.drewN ?_ _ | with_reducible refine Fr.drew ?_ | with_reducible refine Fr.alloc ?_ _)⟩
  all_goals rw [Hor.out]
  all_goals repeat (first | exact HR.out | refine Rep.fset (s := s) ?_ (s.failed ||| 2 ^ t) | refine Rep.drewN ?_ _ | refine Rep.drew ?_ | refine Rep.alloc ?_ _)

set_option maxRecDepth 100000 in
set_option maxHeartbeats 2000000 in
theorem do_open7 {B ba bl : Nat} {ov : Value} {s : St} {i : Nat} {c : Cl} {w : World} (to : Int) (val now : Int) (h : RepC B ba bl ov s i c w) (hn : s.l.length ≤ 6) (hp : 0 < c.part) :
    Calls Try.prog 7 #[.pointer (some ⟨ba, 0, none⟩), .agg #[.int .i64 1, .int .i64 i, .int .i64 to, .int .i64 val], .int .i64 now] w fun e w' => e = .returned (.int .i64 7) ∧ (∃ ov', Rep B ba bl ov' (putc s i c) w' ∧ Lat w ov ov') ∧ Fr ba bl ov w w' := by
  obtain ⟨part, beg, wr, cval, rd, many, bs, bv⟩ := c
  simp only at hp
  obtain ⟨k0, k1, k2, k3, k4, k5, k6, k7, c0, c50, hz, hzl⟩ := h.facts
  have c1 : w.cell? ⟨ba, 1, none⟩ = some (.int .u32 s.failed) := h.2.all.cell rfl
  have hlA := h.2.all.lt
  have hlL := h.2.kept.lt
  have hi := h.1
  have hlo := h.2.loa
  have hlol := h.2.lol
  have HR := Lib.hid h.2
  have HC := Lib.hid h
  clear h
  by_cases hto : 0 ≤ to
  · skip
    go_enter Try.func7, Try.ntmps7
    go_wp2
    all_goals (try go_quiet (fail))
    all_goals (try go_wp2)
    all_goals (try go_quiet (fail))
    all_goals (try go_wp2)
    all_goals (try go_quiet (fail))
    all_goals (try go_wp2)
    all_goals (try go_quiet (fail))
    all_goals (try go_wp2)
    all_goals go_ret
    all_goals exact ⟨(by first | rfl | exact trivial), ⟨ov, by repeat (first | with_reducible exact HR.out | with_reducible refine Rep.drewN ?_ _ | with_reducible refine Rep.drew ?_ | with_reducible refine Rep.alloc ?_ _), Lat.refl _ _⟩, by repeat (first | with_reducible exact Fr.refl _ _ _ _ | with_reducible assumption | with_reducible refine Fr.setA ?_ _ _ | with_reducible refine Fr.setL ?_ _ _ | with_reducible refine Fr.drewN ?_ _ | with_reducible refine Fr.drew ?_ | with_reducible refine Fr.alloc ?_ _)⟩
  · have hto2 : to < 0 := by omega
    have hd : decide ((0 : Int) ≤ to) = false := by simpa using hto2
    clear hto
    go_enter Try.func7, Try.ntmps7
    go_wp2
    all_goals (try go_quiet (fail))
    all_goals (try go_wp2)
    all_goals (try go_quiet (fail))
    all_goals (try go_wp2)
    all_goals (try go_quiet (fail))
    all_goals (try go_wp2)
    all_goals (try go_quiet (fail))
    all_goals (try go_wp2)
    all_goals go_ret
    all_goals exact ⟨(by first | rfl | exact trivial), ⟨ov, by repeat (first | with_reducible exact HR.out | with_reducible refine Rep.drewN ?_ _ | with_reducible refine Rep.drew ?_ | with_reducible refine Rep.alloc ?_ _), Lat.refl _ _⟩, by repeat (first | with_reducible exact Fr.refl _ _ _ _ | with_reducible assumption | with_reducible refine Fr.setA ?_ _ _ | with_reducible refine Fr.setL ?_ _ _ | with_reducible refine Fr.drewN ?_ _ | with_reducible refine Fr.drew ?_ | with_reducible refine Fr.alloc ?_ _)⟩

set_option maxRecDepth 100000 in
set_option maxHeartbeats 2000000 in
theorem do_open0 {B ba bl : Nat} {ov : Value} {s : St} {i : Nat} {c : Cl} {w : World} (to : Int) (val now : Int) (h : RepC B ba bl ov s i c w) (hn : s.l.length ≤ 6) (hp : c.part ≤ 0) :
    Calls Try.prog 7 #[.pointer (some ⟨ba, 0, none⟩), .agg #[.int .i64 1, .int .i64 i, .int .i64 to, .int .i64 val], .int .i64 now] w fun e w' => e = .returned (.int .i64 0) ∧ (∃ ov', Rep B ba bl ov' (putc s i (fresh ⟨1, i, to, val⟩ now)) w' ∧ Lat w ov ov') ∧ Fr ba bl ov w w' := by
  obtain ⟨part, beg, wr, cval, rd, many, bs, bv⟩ := c
  simp only at hp
  obtain ⟨k0, k1, k2, k3, k4, k5, k6, k7, c0, c50, hz, hzl⟩ := h.facts
  have c1 : w.cell? ⟨ba, 1, none⟩ = some (.int .u32 s.failed) := h.2.all.cell rfl
  have hlA := h.2.all.lt
  have hlL := h.2.kept.lt
  have hi := h.1
  have hlo := h.2.loa
  have hlol := h.2.lol
  have HR := Lib.hid h.2
  have HC := Lib.hid h
  clear h
  by_cases hto : 0 ≤ to
  · skip
    go_enter Try.func7, Try.ntmps7
    go_wp2
    all_goals (try go_quiet (fail))
    all_goals (try go_wp2)
    all_goals (try go_quiet (fail))
    all_goals (try go_wp2)
    all_goals (try go_quiet (fail))
    go_wp2_with fail
    refine (fresh_any _ _ _ _ _ _).mono ?_
    rintro e w3 ⟨rfl, hblk, hbel⟩
    have hr3 : RepC B ba bl ov s i ⟨part, beg, wr, cval, rd, many, bs, bv⟩ w3 := ⟨hi, ((HC.out.alloc _).drewN _).2.later hbel⟩
    have hB3 : Fr ba bl ov w w3 := Fr.later (by repeat (first | with_reducible exact Fr.refl _ _ _ _ | with_reducible assumption | with_reducible refine Fr.setA ?_ _ _ | with_reducible refine Fr.setL ?_ _ _ | with_reducible refine Fr.drewN ?_ _ | with_reducible refine Fr.drew ?_ | with_reducible refine Fr.alloc ?_ _)) hbel
    have HB3 := Lib.hid hB3
    simp only [World.heap_drewN, World.size_alloc] at hblk
    clear k0 k1 k2 k3 k4 k5 k6 k7 c0 c50 hz hzl c1 hbel hB3
    obtain ⟨k0, k1, k2, k3, k4, k5, k6, k7, c0, c50, hz, hzl⟩ := hr3.facts
    have H3 := Lib.hid hr3
    have y0 := hblk.cell (o := 0) rfl
    have y1 := hblk.cell (o := 1) rfl
    have y2 := hblk.cell (o := 2) rfl
    have y3 := hblk.cell (o := 3) rfl
    have y4 := hblk.cell (o := 4) rfl
    have y5 := hblk.cell (o := 5) rfl
    have y6 := hblk.cell (o := 6) rfl
    have y7 := hblk.cell (o := 7) rfl
    have HL := Lib.hid hblk
    clear hr3 hblk
    generalize hf : fresh ⟨1, i, to, val⟩ now = f at *
    have HF := Lib.hid hf
    clear hf
    go_wp2
    go_ret
    refine ⟨by first | rfl | trivial, ⟨ov, ?_, Lat.refl _ _⟩, Fr.trans HB3.out (Lat.refl _ _) (by repeat (first | with_reducible exact Fr.refl _ _ _ _ | with_reducible assumption | with_reducible refine Fr.setA ?_ _ _ | with_reducible refine Fr.setL ?_ _ _ | with_reducible refine Fr.drewN ?_ _ | with_reducible refine Fr.drew ?_ | with_reducible refine Fr.alloc ?_ _))⟩
    rw [HF.out]
    have hh := H3.out.all8 (c' := f)
    unfold RepC at hh
    with_reducible exact hh.2
  · have hto2 : to < 0 := by omega
    have hd : decide ((0 : Int) ≤ to) = false := by simpa using hto2
    clear hto
    go_enter Try.func7, Try.ntmps7
    go_wp2
    all_goals (try go_quiet (fail))
    all_goals (try go_wp2)
    all_goals (try go_quiet (fail))
    all_goals (try go_wp2)
    all_goals (try go_quiet (fail))
    go_wp2_with fail
    refine (fresh_any _ _ _ _ _ _).mono ?_
    rintro e w3 ⟨rfl, hblk, hbel⟩
    have hr3 : RepC B ba bl ov s i ⟨part, beg, wr, cval, rd, many, bs, bv⟩ w3 := ⟨hi, ((HC.out.alloc _).drewN _).2.later hbel⟩
    have hB3 : Fr ba bl ov w w3 := Fr.later (by repeat (first | with_reducible exact Fr.refl _ _ _ _ | with_reducible assumption | with_reducible refine Fr.setA ?_ _ _ | with_reducible refine Fr.setL ?_ _ _ | with_reducible refine Fr.drewN ?_ _ | with_reducible refine Fr.drew ?_ | with_reducible refine Fr.alloc ?_ _)) hbel
    have HB3 := Lib.hid hB3
    simp only [World.heap_drewN, World.size_alloc] at hblk
    clear k0 k1 k2 k3 k4 k5 k6 k7 c0 c50 hz hzl c1 hbel hB3
    obtain ⟨k0, k1, k2, k3, k4, k5, k6, k7, c0, c50, hz, hzl⟩ := hr3.facts
    have H3 := Lib.hid hr3
    have y0 := hblk.cell (o := 0) rfl
    have y1 := hblk.cell (o := 1) rfl
    have y2 := hblk.cell (o := 2) rfl
    have y3 := hblk.cell (o := 3) rfl
    have y4 := hblk.cell (o := 4) rfl
    have y5 := hblk.cell (o := 5) rfl
    have y6 := hblk.cell (o := 6) rfl
    have y7 := hblk.cell (o := 7) rfl
    have HL := Lib.hid hblk
    clear hr3 hblk
    generalize hf : fresh ⟨1, i, to, val⟩ now = f at *
    have HF := Lib.hid hf
    clear hf
    go_wp2
    go_ret
    refine ⟨by first | rfl | trivial, ⟨ov, ?_, Lat.refl _ _⟩, Fr.trans HB3.out (Lat.refl _ _) (by repeat (first | with_reducible exact Fr.refl _ _ _ _ | with_reducible assumption | with_reducible refine Fr.setA ?_ _ _ | with_reducible refine Fr.setL ?_ _ _ | with_reducible refine Fr.drewN ?_ _ | with_reducible refine Fr.drew ?_ | with_reducible refine Fr.alloc ?_ _))⟩
    rw [HF.out]
    have hh := H3.out.all8 (c' := f)
    unfold RepC at hh
    with_reducible exact hh.2

set_option maxRecDepth 100000 in
set_option maxHeartbeats 2000000 in
theorem do_reach7 {B ba bl : Nat} {ov : Value} {s : St} {i : Nat} {c : Cl} {w : World} (t : Nat) (val now : Int) (h : RepC B ba bl ov s i c w) (hn : s.l.length ≤ 6) (ht : t < s.l.length) (hp : c.part ≤ 0) :
    Calls Try.prog 7 #[.pointer (some ⟨ba, 0, none⟩), .agg #[.int .i64 2, .int .i64 i, .int .i64 t, .int .i64 val], .int .i64 now] w fun e w' => e = .returned (.int .i64 7) ∧ (∃ ov', Rep B ba bl ov' (putc s i c) w' ∧ Lat w ov ov') ∧ Fr ba bl ov w w' := by
  obtain ⟨part, beg, wr, cval, rd, many, bs, bv⟩ := c
  simp only at hp
  obtain ⟨k0, k1, k2, k3, k4, k5, k6, k7, c0, c50, hz, hzl⟩ := h.facts
  have c1 : w.cell? ⟨ba, 1, none⟩ = some (.int .u32 s.failed) := h.2.all.cell rfl
  have hlA := h.2.all.lt
  have hlL := h.2.kept.lt
  have hi := h.1
  have hlo := h.2.loa
  have hlol := h.2.lol
  have HR := Lib.hid h.2
  have HC := Lib.hid h
  clear h
  have hd3 : decide ((0 : Int) < part) = false := by simpa using hp
  go_enter Try.func7, Try.ntmps7
  go_wp2
  all_goals (try go_quiet (fail))
  all_goals (try go_wp2)
  all_goals (try go_quiet (fail))
  all_goals (try go_wp2)
  all_goals (try go_quiet (fail))
  all_goals (try go_wp2)
  all_goals (try go_quiet (fail))
  all_goals (try go_wp2)
  all_goals go_ret
  all_goals exact ⟨(by first | rfl | exact trivial), ⟨ov, by repeat (first | with_reducible exact HR.out | with_reducible refine Rep.drewN ?_ _ | with_reducible refine Rep.drew ?_ | with_reducible refine Rep.alloc ?_ _), Lat.refl _ _⟩, by repeat (first | with_reducible exact Fr.refl _ _ _ _ | with_reducible assumption | with_reducible refine Fr.setA ?_ _ _ | with_reducible refine Fr.setL ?_ _ _ | with_reducible refine Fr.drewN ?_ _ | with_reducible refine Fr.drew ?_ | with_reducible refine Fr.alloc ?_ _)⟩

set_option maxRecDepth 100000 in
set_option maxHeartbeats 2000000 in
theorem do_reach8 {B ba bl : Nat} {ov : Value} {s : St} {i : Nat} {c : Cl} {w : World} (t : Nat) (val now : Int) (h : RepC B ba bl ov s i c w) (hn : s.l.length ≤ 6) (ht : t < s.l.length) (hp : 0 < c.part) (hr : c.reached < 64) (hb : bit c.reached t = true) :
    Calls Try.prog 7 #[.pointer (some ⟨ba, 0, none⟩), .agg #[.int .i64 2, .int .i64 i, .int .i64 t, .int .i64 val], .int .i64 now] w fun e w' => e = .returned (.int .i64 8) ∧ (∃ ov', Rep B ba bl ov' (putc s i c) w' ∧ Lat w ov ov') ∧ Fr ba bl ov w w' := by
  obtain ⟨part, beg, wr, cval, rd, many, bs, bv⟩ := c
  simp only at hp hr hb
  obtain ⟨k0, k1, k2, k3, k4, k5, k6, k7, c0, c50, hz, hzl⟩ := h.facts
  have c1 : w.cell? ⟨ba, 1, none⟩ = some (.int .u32 s.failed) := h.2.all.cell rfl
  have hlA := h.2.all.lt
  have hlL := h.2.kept.lt
  have hi := h.1
  have hlo := h.2.loa
  have hlol := h.2.lol
  have HR := Lib.hid h.2
  have HC := Lib.hid h
  clear h
  have hbt := bit_test rd t hr
  rw [hb] at hbt
  go_enter Try.func7, Try.ntmps7
  go_wp2
  all_goals (try go_quiet (fail))
  all_goals (try go_wp2)
  all_goals (try go_quiet (fail))
  all_goals (try go_wp2)
  all_goals (try go_quiet (fail))
  all_goals (try go_wp2)
  all_goals (try go_quiet (fail))
  all_goals (try go_wp2)
  all_goals (try go_quiet (fail))
  all_goals (try go_wp2)
  all_goals go_ret
  all_goals exact ⟨(by first | rfl | exact trivial), ⟨ov, by repeat (first | with_reducible exact HR.out | with_reducible refine Rep.drewN ?_ _ | with_reducible refine Rep.drew ?_ | with_reducible refine Rep.alloc ?_ _), Lat.refl _ _⟩, by repeat (first | with_reducible exact Fr.refl _ _ _ _ | with_reducible assumption | with_reducible refine Fr.setA ?_ _ _ | with_reducible refine Fr.setL ?_ _ _ | with_reducible refine Fr.drewN ?_ _ | with_reducible refine Fr.drew ?_ | with_reducible refine Fr.alloc ?_ _)⟩

set_option maxRecDepth 100000 in
set_option maxHeartbeats 2000000 in
theorem do_reach5 {B ba bl : Nat} {ov : Value} {s : St} {i : Nat} {c : Cl} {w : World} (t : Nat) (val now : Int) (h : RepC B ba bl ov s i c w) (hn : s.l.length ≤ 6) (ht : t < s.l.length) (hp : 0 < c.part) (hr : c.reached < 64) (hfl : s.failed < 64) (hb : bit c.reached t = false) (hb2 : bit s.failed t = true) :
    Calls Try.prog 7 #[.pointer (some ⟨ba, 0, none⟩), .agg #[.int .i64 2, .int .i64 i, .int .i64 t, .int .i64 val], .int .i64 now] w fun e w' => e = .returned (.int .i64 5) ∧ (∃ ov', Rep B ba bl ov' (putc s i c) w' ∧ Lat w ov ov') ∧ Fr ba bl ov w w' := by
  obtain ⟨part, beg, wr, cval, rd, many, bs, bv⟩ := c
  simp only at hp hr hb
  obtain ⟨k0, k1, k2, k3, k4, k5, k6, k7, c0, c50, hz, hzl⟩ := h.facts
  have c1 : w.cell? ⟨ba, 1, none⟩ = some (.int .u32 s.failed) := h.2.all.cell rfl
  have hlA := h.2.all.lt
  have hlL := h.2.kept.lt
  have hi := h.1
  have hlo := h.2.loa
  have hlol := h.2.lol
  have HR := Lib.hid h.2
  have HC := Lib.hid h
  clear h
  have hbt := bit_test rd t hr
  rw [hb] at hbt
  have hbt2 := bit_test s.failed t hfl
  rw [hb2] at hbt2
  go_enter Try.func7, Try.ntmps7
  go_wp2
  all_goals (try go_quiet (fail))
  all_goals (try go_wp2)
  all_goals (try go_quiet (fail))
  all_goals (try go_wp2)
  all_goals (try go_quiet (fail))
  all_goals (try go_wp2)
  all_goals (try go_quiet (fail))
  all_goals (try go_wp2)
  all_goals (try go_quiet (fail))
  all_goals (try go_wp2)
  all_goals (try go_quiet (fail))
  all_goals (try go_wp2)
  all_goals go_ret
  all_goals exact ⟨(by first | rfl | exact trivial), ⟨ov, by repeat (first | with_reducible exact HR.out | with_reducible refine Rep.drewN ?_ _ | with_reducible refine Rep.drew ?_ | with_reducible refine Rep.alloc ?_ _), Lat.refl _ _⟩, by repeat (first | with_reducible exact Fr.refl _ _ _ _ | with_reducible assumption | with_reducible refine Fr.setA ?_ _ _ | with_reducible refine Fr.setL ?_ _ _ | with_reducible refine Fr.drewN ?_ _ | with_reducible refine Fr.drew ?_ | with_reducible refine Fr.alloc ?_ _)⟩

set_option maxRecDepth 100000 in
set_option maxHeartbeats 2000000 in
theorem do_reach0 {B ba bl : Nat} {ov : Value} {s : St} {i : Nat} {c : Cl} {w : World} {k : Kept} (t : Nat) (val now : Int) (h : RepC B ba bl ov s i c w) (hn : s.l.length ≤ 6) (ht : t < s.l.length) (hk : s.l[t]? = some k) (hp : 0 < c.part) (hr : c.reached < 64) (hfl : s.failed < 64) (hb : bit c.reached t = false) (hb2 : bit s.failed t = false) (hm : 0 ≤ c.many) (hm1 : c.many < 100) (hbs0 : 0 ≤ c.bs) (hbs1 : c.bs ≤ 10000) (hks1 : k.stamp ≤ 10000) (hop : s.ops.length ≤ 100) (hp2 : c.part = 1 ∨ c.part = 2) :
    Calls Try.prog 7 #[.pointer (some ⟨ba, 0, none⟩), .agg #[.int .i64 2, .int .i64 i, .int .i64 t, .int .i64 val], .int .i64 now] w fun e w' => e = .returned (.int .i64 0) ∧ (∃ ov', Rep B ba bl ov' (reach s i t c k now) w' ∧ Lat w ov ov') ∧ Fr ba bl ov w w' := by
  obtain ⟨part, beg, wr, cval, rd, many, bs, bv⟩ := c
  simp only at hp hr hb hm hm1 hbs0 hbs1 hp2
  obtain ⟨k0, k1, k2, k3, k4, k5, k6, k7, c0, c50, hz, hzl⟩ := h.facts
  have c1 : w.cell? ⟨ba, 1, none⟩ = some (.int .u32 s.failed) := h.2.all.cell rfl
  have hlA := h.2.all.lt
  have hlL := h.2.kept.lt
  have hi := h.1
  have hlo := h.2.loa
  have hlol := h.2.lol
  have HR := Lib.hid h.2
  have HC := Lib.hid h
  clear h
  have hbt := bit_test rd t hr
  rw [hb] at hbt
  have hbt2 := bit_test s.failed t hfl
  rw [hb2] at hbt2
  go_enter Try.func7, Try.ntmps7
  go_wp2
  all_goals (try go_quiet (fail))
  all_goals (try go_wp2)
  all_goals (try go_quiet (fail))
  all_goals (try go_wp2)
  all_goals (try go_quiet (fail))
  all_goals (try go_wp2)
  all_goals (try go_quiet (fail))
  all_goals (try go_wp2)
  all_goals (try go_quiet (fail))
  go_wp2_with fail
  refine (reach_any now (⟨hi, ((HC.out.alloc _).drewN _).2⟩ : RepC B ba bl ov s i ⟨part, beg, wr, cval, rd, many, bs, bv⟩ _) ht hk hn hm hm1 hr hbs0 hbs1 hks1 hop hp2).mono ?_
  rintro e w3 ⟨rfl, ⟨ov2, hr3, hlat⟩, hbel⟩
  have hB3 : Fr ba bl ov w w3 := Fr.trans (by repeat (first | with_reducible exact Fr.refl _ _ _ _ | with_reducible assumption | with_reducible refine Fr.setA ?_ _ _ | with_reducible refine Fr.setL ?_ _ _ | with_reducible refine Fr.drewN ?_ _ | with_reducible refine Fr.drew ?_ | with_reducible refine Fr.alloc ?_ _)) (Lat.refl _ _) hbel
  have HL3 := Lib.hid hlat
  have HB3 := Lib.hid hB3
  have H3 := Lib.hid hr3
  clear k0 k1 k2 k3 k4 k5 k6 k7 c0 c50 hz hzl c1 hbel hB3 hr3 hlat
  go_wp2
  go_ret
  exact ⟨by first | rfl | trivial, ⟨ov2, H3.out, fun k hk e => HL3.out k (by simp; omega) e⟩, HB3.out⟩

end Go.Proofs.Ytbibibpliahclaa.Cp
