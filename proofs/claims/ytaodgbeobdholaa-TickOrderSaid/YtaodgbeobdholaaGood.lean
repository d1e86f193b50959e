/-
  An order by rising ticks is one (no program is walked).
-/
import Derived.Test.YtaodgbeobdholaaAhead
import Derived.Test.YtaodgbeobdholaaAgain
namespace Go.Proofs.Ytaodgbeobdholaa.Rn

theorem seenOf_test (l : List Nat) (j : Nat) : (seenOf l).testBit j = decide (j ∈ l) := by
  have key : ∀ (l : List Nat) (s : Nat), (l.foldl (fun s i => s ||| 2 ^ i) s).testBit j = (s.testBit j || decide (j ∈ l)) := by
    intro l
    induction l with
    | nil => intro s; simp
    | cons a l ih =>
      intro s
      rw [List.foldl_cons, ih, Nat.testBit_or, Nat.testBit_two_pow]
      by_cases h : a = j
      · subst h; simp
      · simp [h, Ne.symm h]
  unfold seenOf
  rw [key]
  simp
theorem seenOf_lt (l : List Nat) (h : ∀ i ∈ l, i < 30) : seenOf l < 2 ^ 30 := by
  have key : ∀ (l : List Nat) (s : Nat), s < 2 ^ 30 → (∀ i ∈ l, i < 30) → l.foldl (fun s i => s ||| 2 ^ i) s < 2 ^ 30 := by
    intro l
    induction l with
    | nil => intro s hs _; exact hs
    | cons a l ih =>
      intro s hs h
      rw [List.foldl_cons]
      exact ih _ (Nat.or_lt_two_pow hs (Nat.pow_lt_pow_right (by omega) (h a (by simp)))) fun i hi => h i (by simp [hi])
  exact key l 0 (by simp) h

theorem good_of {L : List Ev} {O : List Nat} (hl : L.length ≤ 30) (hlen : O.length = L.length) (hnd : O.Nodup) (hmem : ∀ i, i ∈ O ↔ i < L.length)
    (hs : ∀ a b i j : Nat, a < b → O[a]? = some i → O[b]? = some j → ¬ (ticks L).getD j 0 < (ticks L).getD i 0) : GoodOrder L O := by
  refine ⟨hlen, fun k i hk => ?_⟩
  have hi : i < L.length := (hmem i).1 (List.mem_of_getElem? hk)
  obtain ⟨hkl, hke⟩ := List.getElem?_eq_some_iff.1 hk
  refine ⟨hi, ?_, ?_⟩
  · have h1 : (seenOf (O.take k)).testBit i = false := by
      rw [seenOf_test, decide_eq_false_iff_not]
      intro hm
      obtain ⟨a, ha, e⟩ := List.getElem_of_mem hm
      rw [List.length_take] at ha
      rw [List.getElem_take] at e
      have := (List.getElem_inj (h₀ := by omega) (h₁ := hkl) hnd).1 (e.trans hke.symm)
      omega
    rw [Nat.testBit_eq_decide_div_mod_eq] at h1
    simp at h1
    omega
  · apply Nat.eq_of_testBit_eq
    intro j
    have hS : seenOf (O.take k) < 2 ^ 32 := Nat.lt_trans (seenOf_lt _ fun x hx => by
      have := (hmem x).1 (List.mem_of_mem_take hx); omega) (by decide)
    rw [Nat.testBit_and, show 4294967295 - seenOf (O.take k) = 2 ^ 32 - (seenOf (O.take k) + 1) by omega, Nat.testBit_two_pow_sub_succ hS, seenOf_test]
    cases hp : ((pasts L).getD i 0).testBit j with
    | false => simp
    | true =>
      obtain ⟨h1, h2⟩ := ahead L i j hi hp
      have hj : j ∈ O := (hmem j).2 (by omega)
      obtain ⟨b, hb, e⟩ := List.getElem_of_mem hj
      have hjt : j ∈ O.take k := by
        rcases Nat.lt_trichotomy b k with h3 | h3 | h3
        · rw [List.mem_take_iff_getElem]
          exact ⟨b, by omega, e⟩
        · subst h3; rw [hke] at e; omega
        · exact absurd h2 (hs k b i j h3 hk (by rw [List.getElem?_eq_getElem hb, e]))
      simp [hjt]
end Go.Proofs.Ytaodgbeobdholaa.Rn
