/-
  The map of what is known to lead to no order: keys are pairs of words.
-/
import Derived.Test.YtbibibpliahclaaWaits
import Derived.Maps.Own
namespace Go.Proofs.Ytbibibpliahclaa.Cp
open Go Go.RowKit Mem
open Go.ChangeMaps (setBlock)

def KeyV (d l : Int) : Value := .agg #[.int .u32 d, .int .u32 l]
theorem KeyV.inj {d l d' l' : Int} (h : KeyV d l = KeyV d' l') : d = d' ∧ l = l' := by
  unfold KeyV at h
  simpa using h

theorem check_run (b : Bool) (d l : Int) (w : World) : (Instr.checkKey b 10000 65 (KeyV d l)).run Try.prog w = .ok () w := by kernel_rfl
theorem eq41 (a b : Int) (w : World) : (Op.equalIn 9999 41 (.int .u32 a) (.int .u32 b)).run Try.prog w = .ok (a == b) w :=
  run_equalIn_int w 9998 41 .u32 .u32 a b Try.underlying41
theorem part0 (a b : Int) (w : World) : (part 41 #[.int .u32 a, .int .u32 b] 0).run Try.prog w = .ok (.int .u32 a) w := by kernel_rfl
theorem part1 (a b : Int) (w : World) : (part 41 #[.int .u32 a, .int .u32 b] 1).run Try.prog w = .ok (.int .u32 b) w := by kernel_rfl
theorem equal_run (d l d' l' : Int) (w : World) : (Op.equal 65 (KeyV d l) (KeyV d' l')).run Try.prog w = .ok (d == d' && l == l') w := by
  show (Op.equalIn (9998 + 1 + 1) 65 (KeyV d l) (KeyV d' l')).run Try.prog w = _
  rw [Op.equalIn]
  simp [KeyV, run_underlying Try.underlying65]
  rw [show List.range' 0 2 = [0, 1] from rfl]
  simp only [List.forIn_cons, List.forIn_nil, Sem.run_bind, part0, part1, Result.andThen_ok, eq41]
  by_cases h : d = d'
  · subst h
    simp [part1, part0, eq41]
    by_cases h2 : l = l'
    · subst h2
      simp
    · simp [h2]
  · simp [h]

def Keys (es : List MapEntry) : Prop := ∀ e ∈ es, ∃ d l : Int, e.key = KeyV d l
theorem asking_run (d l : Int) : ∀ (es : List MapEntry), Keys es → ∀ i, ∃ r, (∀ w, (Instr.findAsking 65 (KeyV d l) es i).run Try.prog w = .ok r w) ∧
    ∀ p, r = some p → i ≤ p.1 ∧ ∃ e, es[p.1 - i]? = some e ∧ e.key = KeyV d l ∧ p.2 = e.val
  | [], _, i => ⟨none, fun w => by simp [Instr.findAsking], fun p h => by cases h⟩
  | e :: es, hk, i => by
    obtain ⟨d', l', he⟩ := hk e (by simp)
    obtain ⟨r, hr, hp⟩ := asking_run d l es (fun x hx => hk x (by simp [hx])) (i + 1)
    by_cases hq : d = d' ∧ l = l'
    · obtain ⟨rfl, rfl⟩ := hq
      refine ⟨some (i, e.val), fun w => ?_, fun p h => ?_⟩
      · simp [Instr.findAsking, he, equal_run]
      · cases h
        exact ⟨Nat.le_refl _, e, by simp, he, rfl⟩
    · refine ⟨r, fun w => ?_, fun p h => ?_⟩
      · have hf : (d == d' && l == l') = false := by
          cases h1 : (d == d' && l == l') with
          | false => rfl
          | true => simp at h1; exact absurd h1 hq
        simp [Instr.findAsking, he, equal_run, hf, hr]
      · obtain ⟨h1, x, h2, h3, h4⟩ := hp p h
        refine ⟨by omega, x, ?_, h3, h4⟩
        rw [show p.1 - i = (p.1 - (i + 1)) + 1 by omega]
        simpa using h2
theorem findKey_run (d l : Int) (es : List MapEntry) (hk : Keys es) : ∃ r, (∀ w, (Instr.findKey 65 (KeyV d l) es).run Try.prog w = .ok r w) ∧
    ∀ p, r = some p → ∃ e, es[p.1]? = some e ∧ e.key = KeyV d l ∧ p.2 = e.val := by
  obtain ⟨r, hr, hp⟩ := asking_run d l es hk 0
  refine ⟨r, fun w => ?_, fun p h => ?_⟩
  · unfold Instr.findKey
    cases es with
    | nil =>
      have hr0 := hr w
      simp [Instr.findAsking] at hr0
      simp [Instr.findNow, run_underlying Try.underlying65, hr0]
    | cons e es => simp [Instr.findNow, Instr.sameNow, run_underlying Try.underlying65, hr]
  · obtain ⟨_, e, h1, h2, h3⟩ := hp p h
    exact ⟨e, by simpa using h1, h2, h3⟩

/-- all that is in the map leads to no order -/
def BadOk (L : List Op) (es : List MapEntry) : Prop := ∀ e ∈ es, ∃ (d : Nat) (l : Int), e.key = KeyV d (l + 1) ∧ e.val = .bool true ∧ ¬ Can L d l
theorem BadOk.keys {L : List Op} {es : List MapEntry} (h : BadOk L es) : Keys es := fun e he => by
  obtain ⟨d, l, hk, _⟩ := h e he
  exact ⟨d, l + 1, hk⟩

theorem zero4 (w : World) : (zeroValue 4).run Try.prog w = .ok (.bool false) w := by kernel_rfl

theorem lookup_run {L : List Op} {es : Array MapEntry} (d : Nat) (l : Int) (hb : BadOk L es.toList) :
    ∃ b, (b = true → ¬ Can L d l) ∧ ∀ (w : World) (mb clk : Nat), w.heap[mb]? = some (.map es clk) → (Instr.lookup 59 (.map (some mb)) (KeyV d (l + 1)) false).run Try.prog w = .ok (.bool b) w := by
  obtain ⟨r, hr, hp⟩ := findKey_run d (l + 1) es.toList hb.keys
  cases r with
  | none =>
    refine ⟨false, fun h => (by cases h), fun w mb clk hm => ?_⟩
    simp [Instr.lookup, run_underlying Try.underlying59, getObj, Sem.run, hm, check_run, hr, zero4]
  | some p =>
    obtain ⟨e, h1, h2, h3⟩ := hp p rfl
    obtain ⟨d', l', k1, k2, k3⟩ := hb e (List.mem_of_getElem? h1)
    rw [h2] at k1
    obtain ⟨e1, e2⟩ := KeyV.inj k1
    have e1 : d = d' := by omega
    have e2 : l = l' := by omega
    subst e1
    subst e2
    refine ⟨true, fun _ => k3, fun w mb clk hm => ?_⟩
    have hv : p.2 = .bool true := h3.trans k2
    simp [Instr.lookup, run_underlying Try.underlying59, getObj, Sem.run, hm, check_run, hr, hv]

theorem stays (d l : Int) (w : World) : (Instr.keyThatStays (KeyV d l) (KeyV d l)).run Try.prog w = .ok (KeyV d l) w := by
  have h : Instr.sameBits 10000 (KeyV d l) (KeyV d l) = true := by
    show Instr.sameBits (9999 + 1) (KeyV d l) (KeyV d l) = true
    simp [Instr.sameBits, KeyV]
  simp [Instr.keyThatStays, h]

theorem update_run {L : List Op} {es : Array MapEntry} {clk : Nat} (d : Nat) (l : Int) (hb : BadOk L es.toList) (hc : ¬ Can L d l) :
    ∃ es' clk', BadOk L es'.toList ∧ ∀ (w : World) (mb : Nat), w.heap[mb]? = some (.map es clk) → (Instr.mapUpdate 59 (.map (some mb)) (KeyV d (l + 1)) (.bool true)).run Try.prog w = .ok () (setBlock w mb (.map es' clk')) := by
  obtain ⟨r, hr, hp⟩ := findKey_run d (l + 1) es.toList hb.keys
  cases r with
  | none =>
    refine ⟨es.push { key := KeyV d (l + 1), val := .bool true, born := clk }, clk + 1, ?_, fun w mb hm => ?_⟩
    · intro e he
      simp at he
      rcases he with he | rfl
      · exact hb e (by simpa using he)
      · exact ⟨d, l, rfl, rfl, hc⟩
    · simp [Instr.mapUpdate, run_underlying Try.underlying59, getObj, setObj, Sem.run, hm, check_run, hr, setBlock]
  | some p =>
    obtain ⟨e, h1, h2, h3⟩ := hp p rfl
    have h1' : es[p.1]? = some e := by simpa using h1
    refine ⟨es.modify p.1 fun e => { e with key := KeyV d (l + 1), val := .bool true }, clk, ?_, fun w mb hm => ?_⟩
    · intro x hx
      simp only [Array.toList_modify] at hx
      obtain ⟨j, hj, hjx⟩ := List.getElem_of_mem hx
      rw [List.getElem_modify] at hjx
      split at hjx
      · rw [← hjx]; exact ⟨d, l, rfl, rfl, hc⟩
      · rw [← hjx]; exact hb _ (List.getElem_mem _)
    · simp [Instr.mapUpdate, run_underlying Try.underlying59, getObj, setObj, Sem.run, hm, check_run, hr, h1', h2, stays, setBlock]
end Go.Proofs.Ytbibibpliahclaa.Cp
