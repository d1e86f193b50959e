/-
  The contract of (*all).do: all ways together.
-/
import Derived.Test.YtbibibpliahclaaDo
import Derived.Test.YtbibibpliahclaaBounds
namespace Go.Proofs.Ytbibibpliahclaa.Cp
open Go Go.RowKit Mem

def MoveV (m : Move) : Value := .agg #[.int .i64 m.kind, .int .i64 m.frm, .int .i64 m.to, .int .i64 m.val]

theorem do_any {B ba bl : Nat} {ov : Value} {s : St} {w : World} {n m : Nat} (mv : Move) (now : Int) (h : Rep B ba bl ov s w) (hf : Fine n m s) (hn : n ≤ 6) (hm : m ≤ 60) :
    Calls Try.prog 7 #[.pointer (some ⟨ba, 0, none⟩), MoveV mv, .int .i64 now] w fun e w' =>
      e = .returned (.int .i64 (step s mv now).2) ∧ (∃ ov', Rep B ba bl ov' (step s mv now).1 w' ∧ Lat w ov ov') ∧ Fr ba bl ov w w' := by
  obtain ⟨kind, frm, to, val⟩ := mv
  have hl := hf.len
  have hln : s.l.length ≤ 6 := by omega
  have hfl := hf.failed
  by_cases h1 : kind < 1 ∨ 3 < kind
  · have e : step s ⟨kind, frm, to, val⟩ now = (s, 6) := by simp only [step, if_pos h1]
    rw [e]
    exact do_kind kind frm to val now h hln h1
  by_cases h2 : (kind ≠ 3 ∧ ¬ (0 ≤ frm ∧ frm < 6)) ∨ (kind ≠ 1 ∧ ¬ (0 ≤ to ∧ to < s.l.length))
  · have e : step s ⟨kind, frm, to, val⟩ now = (s, 2) := by simp only [step, if_neg h1, if_pos h2]
    rw [e]
    by_cases k1 : kind = 1
    · subst k1
      have h9 : frm < 0 ∨ 6 ≤ frm := by
        rcases h2 with ⟨_, h3⟩ | ⟨h3, _⟩
        · by_cases h0 : 0 ≤ frm
          · by_cases h6 : frm < 6
            · exact absurd ⟨h0, h6⟩ h3
            · omega
          · omega
        · exact absurd rfl h3
      exact do_arg1 frm to val now h hln h9
    by_cases k2 : kind = 2
    · subst k2
      by_cases h3 : 0 ≤ frm ∧ frm < 6
      · have h9 : to < 0 ∨ (s.l.length : Int) ≤ to := by
          rcases h2 with ⟨_, h4⟩ | ⟨_, h4⟩
          · exact absurd h3 h4
          · by_cases h0 : 0 ≤ to
            · by_cases h6 : to < s.l.length
              · exact absurd ⟨h0, h6⟩ h4
              · omega
            · omega
        exact do_arg2b frm to val now h hln h9 h3.1 h3.2
      · have h9 : frm < 0 ∨ 6 ≤ frm := by
          by_cases h0 : 0 ≤ frm
          · by_cases h6 : frm < 6
            · exact absurd ⟨h0, h6⟩ h3
            · omega
          · omega
        exact do_arg2a frm to val now h hln h9
    have k3 : kind = 3 := by omega
    subst k3
    have h9 : to < 0 ∨ (s.l.length : Int) ≤ to := by
      rcases h2 with ⟨h4, _⟩ | ⟨_, h4⟩
      · exact absurd rfl h4
      · by_cases h0 : 0 ≤ to
        · by_cases h6 : to < s.l.length
          · exact absurd ⟨h0, h6⟩ h4
          · omega
        · omega
    exact do_arg3 frm to val now h hln h9
  by_cases k3 : kind = 3
  · subst k3
    obtain ⟨t, rfl⟩ := Int.eq_ofNat_of_zero_le (show 0 ≤ to by omega)
    have ht : t < s.l.length := by omega
    by_cases hb : bit s.failed t = true
    · have e : step s ⟨3, frm, t, val⟩ now = (s, 7) := by
        simp only [step, if_neg h1, if_neg h2]
        simp [hb]
      rw [e]
      exact do_fail7 frm t val now h hln ht hfl hb
    · have e : step s ⟨3, frm, t, val⟩ now = ({ s with failed := s.failed ||| 2 ^ t }, 0) := by
        simp only [step, if_neg h1, if_neg h2]
        simp [hb]
      rw [e]
      exact do_fail0 frm t val now h hln ht hfl (by simpa using hb)
  obtain ⟨i, rfl⟩ := Int.eq_ofNat_of_zero_le (show 0 ≤ frm by omega)
  have hi : i < 6 := by omega
  obtain ⟨hc, fc⟩ := hf.getC i hi
  have HC : RepC B ba bl ov s i (s.cl.getD i default) w := RepC.of h hc
  have same : putc s i (s.cl.getD i default) = s := by
    unfold putc
    have : s.cl.set i (s.cl.getD i default) = s.cl := by
      obtain ⟨h3, h4⟩ := List.getElem?_eq_some_iff.1 hc
      rw [← h4]; exact List.set_getElem_self h3
    rw [this]
  generalize hcd : s.cl.getD i default = c at hc fc HC same
  by_cases k1 : kind = 1
  · subst k1
    by_cases hp : 0 < c.part
    · have e : step s ⟨1, i, to, val⟩ now = (s, 7) := by
        simp only [step, if_neg h1, if_neg h2]
        simp only [Int.toNat_natCast, hcd]
        simp [hp]
      rw [e]
      have := do_open7 to val now HC hln hp
      rw [same] at this
      exact this
    · have e : step s ⟨1, i, to, val⟩ now = (putc s i (fresh ⟨1, i, to, val⟩ now), 0) := by
        simp only [step, if_neg h1, if_neg h2]
        simp only [Int.toNat_natCast, hcd]
        simp [hp]
      rw [e]
      exact do_open0 to val now HC hln (by omega)
  have k2 : kind = 2 := by omega
  subst k2
  obtain ⟨t, rfl⟩ := Int.eq_ofNat_of_zero_le (show 0 ≤ to by omega)
  have ht : t < s.l.length := by omega
  by_cases hp : 0 < c.part
  · by_cases hb : bit c.reached t = true
    · have e : step s ⟨2, i, t, val⟩ now = (s, 8) := by
        simp only [step, if_neg h1, if_neg h2]
        simp only [Int.toNat_natCast, hcd]
        simp [hp, hb]
      rw [e]
      have := do_reach8 t val now HC hln ht hp fc.reached hb
      rw [same] at this
      exact this
    · by_cases hb2 : bit s.failed t = true
      · have e : step s ⟨2, i, t, val⟩ now = (s, 5) := by
          simp only [step, if_neg h1, if_neg h2]
          simp only [Int.toNat_natCast, hcd]
          simp [hp, hb, hb2]
        rw [e]
        have := do_reach5 t val now HC hln ht hp fc.reached hfl (by simpa using hb) hb2
        rw [same] at this
        exact this
      · have e : step s ⟨2, i, t, val⟩ now = (reach s i t c (s.l.getD t default) now, 0) := by
          simp only [step, if_neg h1, if_neg h2]
          simp only [Int.toNat_natCast, hcd]
          simp [hp, hb, hb2]
        rw [e]
        obtain ⟨hk, fk⟩ := hf.getK t (by omega)
        have hp2 : c.part = 1 ∨ c.part = 2 := by
          rcases fc.part with h0 | h0 | h0 <;> omega
        exact do_reach0 t val now HC hln ht hk hp fc.reached hfl (by simpa using hb) (by simpa using hb2) fc.many0 (by have := fc.many1; omega) fc.bs0 (by have := fc.bs1; omega) (by omega) (by have := hf.ops; omega) hp2
  · have e : step s ⟨2, i, t, val⟩ now = (s, 7) := by
      simp only [step, if_neg h1, if_neg h2]
      simp only [Int.toNat_natCast, hcd]
      simp [hp]
    rw [e]
    have := do_reach7 t val now HC hln ht (by omega)
    rw [same] at this
    exact this
end Go.Proofs.Ytbibibpliahclaa.Cp
