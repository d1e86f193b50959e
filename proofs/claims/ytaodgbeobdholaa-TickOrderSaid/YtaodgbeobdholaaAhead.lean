/-
  What is ahead of an event has the lesser tick (no program is named).
-/
import Derived.Test.YtaodgbeobdholaaPastModel
namespace Go.Proofs.Ytaodgbeobdholaa.Rn

theorem getD_snoc_lt {α : Type} (T : List α) (t d : α) (j : Nat) (h : j < T.length) : (T ++ [t]).getD j d = T.getD j d := by
  simp [List.getD, List.getElem?_append_left h]
theorem getD_snoc_eq {α : Type} (T : List α) (t d : α) : (T ++ [t]).getD T.length d = t := by simp [List.getD]

theorem ahead_upto (L : List Ev) : ∀ k, k ≤ L.length → ∃ (c s : Int → Int) (T : List Int) (C S : Int → Nat) (P : List Nat), TkS L k c s T ∧ PsS L k C S P ∧
    (∀ x j, (C x).testBit j = true → j < k ∧ T.getD j 0 ≤ c x) ∧ (∀ x j, (S x).testBit j = true → j < k ∧ T.getD j 0 ≤ s x) ∧
    (∀ i j, i < k → (P.getD i 0).testBit j = true → j < i ∧ T.getD j 0 < T.getD i 0) := by
  intro k
  induction k with
  | zero => exact fun _ => ⟨_, _, _, _, _, _, TkS.start L, PsS.start L, fun x j h => by simp at h, fun x j h => by simp at h, fun i j h => by omega⟩
  | succ k ih =>
    intro hk
    obtain ⟨c, s, T, C, S, P, h1, h2, h3, h4, h5⟩ := ih (by omega)
    obtain ⟨e, he⟩ : ∃ e, L[k]? = some e := ⟨L[k], List.getElem?_eq_getElem (by omega)⟩
    have hT := h1.len
    have hP := h2.len
    have hpast : ∀ j, (pastOf C S e).testBit j = true → j < k ∧ T.getD j 0 < tickOf c s e := by
      intro j hj
      unfold pastOf at hj
      unfold tickOf
      split at hj
      · rename_i hkd
        rw [Nat.testBit_or, Bool.or_eq_true] at hj
        rw [if_pos hkd]
        rcases hj with hj | hj
        · have := h3 _ _ hj; omega
        · have := h4 _ _ hj; omega
      · rename_i hkd
        rw [if_neg hkd]
        have := h3 _ _ hj; omega
    have hnext : ∀ j, (pastOf C S e ||| 2 ^ k).testBit j = true → j < k + 1 ∧ (T ++ [tickOf c s e]).getD j 0 ≤ tickOf c s e := by
      intro j hj
      rw [Nat.testBit_or, Bool.or_eq_true, Nat.testBit_two_pow] at hj
      rcases hj with hj | hj
      · have := hpast j hj
        rw [getD_snoc_lt _ _ _ _ (by omega)]
        omega
      · have : k = j := by simpa using hj
        subst this
        rw [← hT, getD_snoc_eq]
        exact ⟨by omega, Int.le_refl _⟩
    have hold : ∀ (f : Int → Nat) (g : Int → Int), (∀ x j, (f x).testBit j = true → j < k ∧ T.getD j 0 ≤ g x) → ∀ x j, (f x).testBit j = true → j < k + 1 ∧ (T ++ [tickOf c s e]).getD j 0 ≤ g x := by
      intro f g h x j hj
      have := h x j hj
      rw [getD_snoc_lt _ _ _ _ (by omega)]
      omega
    refine ⟨_, _, _, _, _, _, h1.step he, h2.step he, ?_, ?_, ?_⟩
    · intro x j hj
      unfold upN at hj
      unfold upF
      split at hj
      · rename_i hx; rw [if_pos hx]; exact hnext j hj
      · rename_i hx; rw [if_neg hx]; exact hold C c h3 x j hj
    · intro x j hj
      by_cases hkd : e.kind = 2
      · rw [if_pos hkd] at hj ⊢
        unfold upN at hj
        unfold upF
        split at hj
        · rename_i hx; rw [if_pos hx]; exact hnext j hj
        · rename_i hx; rw [if_neg hx]; exact hold S s h4 x j hj
      · rw [if_neg hkd] at hj ⊢
        exact hold S s h4 x j hj
    · intro i j hi hj
      rcases Nat.lt_or_ge i k with h | h
      · rw [getD_snoc_lt _ _ _ _ (by omega)] at hj
        have := h5 i j h hj
        rw [getD_snoc_lt _ _ _ _ (by omega), getD_snoc_lt _ _ _ _ (by omega)]
        exact this
      · obtain rfl : i = k := by omega
        rw [← hP, getD_snoc_eq] at hj
        have := hpast j hj
        have e2 : (T ++ [tickOf c s e]).getD i 0 = tickOf c s e := by rw [← hT, getD_snoc_eq]
        rw [e2, getD_snoc_lt _ _ _ _ (by omega)]
        exact this

theorem ahead (L : List Ev) (i j : Nat) (hi : i < L.length) (h : ((pasts L).getD i 0).testBit j = true) : j < i ∧ (ticks L).getD j 0 < (ticks L).getD i 0 := by
  obtain ⟨c, s, T, C, S, P, h1, h2, _, _, h5⟩ := ahead_upto L L.length (Nat.le_refl _)
  have e1 : ticks L = T := by rw [h1.all, List.drop_length]; exact List.append_nil _
  have e2 : pasts L = P := by rw [h2.all, List.drop_length]; exact List.append_nil _
  rw [e1]
  rw [e2] at h
  exact h5 i j hi h
end Go.Proofs.Ytaodgbeobdholaa.Rn
