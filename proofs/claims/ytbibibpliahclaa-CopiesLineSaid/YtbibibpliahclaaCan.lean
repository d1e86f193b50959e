/-
  An order that is sorted by a key is one that the search may find (no program is named).
-/
import Derived.Test.YtbibibpliahclaaLineModel
namespace Go.Proofs.Ytbibibpliahclaa.Cp.Pl

theorem bit_test (x i : Nat) : bit x i = Nat.testBit x i := by
  rw [Nat.testBit_eq_decide_div_mod_eq]; unfold bit; rfl
theorem bit_or_ne (x i j : Nat) (h : j ≠ i) : bit (x ||| 2 ^ i) j = bit x j := by
  rw [bit_test, bit_test, Nat.testBit_or, Nat.testBit_two_pow]
  simp [Ne.symm h]

theorem min_of {K : Nat → Int} (P : Nat → Prop) (n : Nat) (h : ∃ i, i < n ∧ P i) : ∃ i, i < n ∧ P i ∧ ∀ j, j < n → P j → K i ≤ K j := by
  induction n with
  | zero => obtain ⟨i, hi, _⟩ := h; omega
  | succ n ih =>
    by_cases h2 : ∃ i, i < n ∧ P i
    · obtain ⟨i, hi, hp, hm⟩ := ih h2
      by_cases hn : P n ∧ K n < K i
      · refine ⟨n, by omega, hn.1, fun j hj hpj => ?_⟩
        rcases Nat.lt_or_ge j n with h | h
        · have := hm j h hpj; omega
        · obtain rfl : j = n := by omega
          exact Int.le_refl _
      · refine ⟨i, by omega, hp, fun j hj hpj => ?_⟩
        rcases Nat.lt_or_ge j n with h | h
        · exact hm j h hpj
        · obtain rfl : j = n := by omega
          rcases Int.lt_or_le (K j) (K i) with h3 | h3
          · exact absurd ⟨hpj, h3⟩ hn
          · exact h3
    · obtain ⟨i, hi, hp⟩ := h
      have hin : i = n := by
        rcases Nat.lt_or_ge i n with h | h
        · exact absurd ⟨i, h, hp⟩ h2
        · omega
      subst hin
      refine ⟨i, by omega, hp, fun j hj hpj => ?_⟩
      rcases Nat.lt_or_ge j i with h | h
      · exact absurd ⟨j, h, hpj⟩ h2
      · obtain rfl : j = i := by omega
        exact Int.le_refl _

theorem can_from (L : List Op) (K : Nat → Int)
    (hb : ∀ i j, i < L.length → j < L.length → behindB (L.getD i default) (L.getD j default) = true → K i < K j)
    (hr : ∀ i, i < L.length → (L.getD i default).wr = false →
      ((L.getD i default).val = 0 ∧ ∀ w, w < L.length → (L.getD w default).wr = true → K i < K w) ∨
      (∃ w0, w0 < L.length ∧ (L.getD w0 default).wr = true ∧ K w0 < K i ∧ ∀ w, w < L.length → (L.getD w default).wr = true → K w0 ≤ K w → K w ≤ K i → (L.getD w default).val = (L.getD i default).val)) :
    ∀ (m done : Nat) (last : Int), left L.length done ≤ m → done < 2 ^ L.length →
      (∀ i j, i < L.length → j < L.length → bit done i = true → bit done j = false → K i ≤ K j) →
      ((last = -1 ∧ ∀ w, w < L.length → bit done w = true → (L.getD w default).wr = false) ∨
       (∃ w0 : Nat, last = w0 ∧ w0 < L.length ∧ bit done w0 = true ∧ (L.getD w0 default).wr = true ∧ ∀ w, w < L.length → bit done w = true → (L.getD w default).wr = true → K w ≤ K w0)) →
      Can L done last := by
  intro m
  induction m with
  | zero =>
    intro done last hl hd hord hlast
    have hall : ∀ i, i < L.length → bit done i = true := by
      intro i hi
      cases hbit : bit done i with
      | true => rfl
      | false =>
        have : i ∈ (List.range L.length).filter fun j => !bit done j := by simp [hi, hbit]
        have h2 := List.length_pos_of_mem this
        unfold left at hl
        omega
    have e : done = 2 ^ L.length - 1 := by
      apply Nat.eq_of_testBit_eq
      intro i
      rw [Nat.testBit_two_pow_sub_one]
      by_cases hi : i < L.length
      · rw [← bit_test, hall i hi]; simp [hi]
      · rw [Nat.testBit_lt_two_pow (Nat.lt_of_lt_of_le hd (Nat.pow_le_pow_right (by omega) (by omega)))]
        simp [hi]
    rw [e]
    exact .fin last
  | succ m ih =>
    intro done last hl hd hord hlast
    by_cases hex : ∃ i, i < L.length ∧ bit done i = false
    · obtain ⟨i, hi, hbit, hmin⟩ := min_of (K := K) (fun i => bit done i = false) L.length hex
      have hdlt : done ||| 2 ^ i < 2 ^ L.length := Nat.or_lt_two_pow hd (Nat.pow_lt_pow_right (by omega) hi)
      refine .step done last i hi ?_ (ih _ _ ?_ hdlt ?_ ?_)
      · unfold elig
        rw [hbit]
        have hw : waitsB L done (L.getD i default) = false := by
          unfold waitsB
          rw [List.any_eq_false]
          intro j hj
          have hj2 := List.mem_range.1 hj
          intro hc
          simp only [Bool.and_eq_true, Bool.not_eq_true'] at hc
          have := hb j i hj2 hi hc.2
          have := hmin j hj2 hc.1
          omega
        rw [hw]
        cases hwr : (L.getD i default).wr with
        | true => rfl
        | false =>
          simp only [Bool.not_false, Bool.true_and, Bool.false_or, decide_eq_true_eq]
          rcases hr i hi hwr with ⟨hv, hno⟩ | ⟨w0, hw0, hw1, hw2, hw3⟩
          · rcases hlast with ⟨rfl, hn⟩ | ⟨w1, rfl, h1, h2, h3, h4⟩
            · rw [hv]; rfl
            · have := hno w1 h1 h3
              have := hord w1 i h1 hi h2 hbit
              omega
          · have hd0 : bit done w0 = true := by
              cases hq : bit done w0 with
              | true => rfl
              | false => have := hmin w0 hw0 hq; omega
            rcases hlast with ⟨rfl, hn⟩ | ⟨w1, rfl, h1, h2, h3, h4⟩
            · have := hn w0 hw0 hd0
              rw [hw1] at this; cases this
            · have := hw3 w1 h1 h3 (h4 w0 hw0 hd0 hw1) (hord w1 i h1 hi h2 hbit)
              unfold nowAt
              rw [if_pos (Int.natCast_nonneg _), Int.toNat_natCast]
              exact this.symm
      · have := left_or hi hbit; omega
      · intro a b ha hb2 hda hdb
        by_cases hai : a = i
        · subst hai
          by_cases hbi : b = a
          · subst hbi; exact Int.le_refl _
          · rw [bit_or_ne _ _ _ hbi] at hdb
            exact hmin b hb2 hdb
        · rw [bit_or_ne _ _ _ hai] at hda
          by_cases hbi : b = i
          · subst hbi; rw [bit_or_self] at hdb; cases hdb
          · rw [bit_or_ne _ _ _ hbi] at hdb
            exact hord a b ha hb2 hda hdb
      · unfold nextOf
        cases hwr : (L.getD i default).wr with
        | true =>
          right
          refine ⟨i, by simp, hi, bit_or_self _ _, hwr, fun w hw hdw hww => ?_⟩
          by_cases hwi : w = i
          · subst hwi; exact Int.le_refl _
          · rw [bit_or_ne _ _ _ hwi] at hdw
            exact hord w i hw hi hdw hbit
        | false =>
          rcases hlast with ⟨rfl, hn⟩ | ⟨w1, rfl, h1, h2, h3, h4⟩
          · left
            refine ⟨by simp, fun w hw hdw => ?_⟩
            by_cases hwi : w = i
            · subst hwi; exact hwr
            · rw [bit_or_ne _ _ _ hwi] at hdw
              exact hn w hw hdw
          · right
            refine ⟨w1, by simp, h1, bit_or_of _ _ _ h2, h3, fun w hw hdw hww => ?_⟩
            by_cases hwi : w = i
            · subst hwi; rw [hwr] at hww; cases hww
            · rw [bit_or_ne _ _ _ hwi] at hdw
              exact h4 w hw hdw hww
    · refine ih done last ?_ hd hord hlast
      have : (List.range L.length).filter (fun j => !bit done j) = [] := by
        rw [List.filter_eq_nil_iff]
        intro j hj
        cases hbit : bit done j with
        | true => simp
        | false => exact absurd ⟨j, List.mem_range.1 hj, hbit⟩ hex
      unfold left
      rw [this]
      simp

theorem can_of (G : List (Op × Int)) (K : Op × Int → Int) (hb : ∀ p ∈ G, ∀ q ∈ G, behindB p.1 q.1 = true → K p < K q)
    (hr : ∀ p ∈ G, p.1.wr = false → (p.1.val = 0 ∧ ∀ q ∈ G, q.1.wr = true → K p < K q) ∨
      (∃ q0 ∈ G, q0.1.wr = true ∧ K q0 < K p ∧ ∀ q ∈ G, q.1.wr = true → K q0 ≤ K q → K q ≤ K p → q.1.val = p.1.val)) :
    Can (G.map (·.1)) 0 (-1) := by
  have hlen : (G.map (·.1)).length = G.length := List.length_map _
  have hget : ∀ i, i < G.length → ∃ p ∈ G, G[i]? = some p ∧ (G.map (·.1)).getD i default = p.1 ∧ (G.getD i default) = p := by
    intro i hi
    refine ⟨G[i], List.getElem_mem hi, List.getElem?_eq_getElem hi, ?_, ?_⟩
    · simp [List.getD, hi]
    · simp [List.getD, hi]
  have hidx : ∀ p ∈ G, ∃ i, i < G.length ∧ (G.map (·.1)).getD i default = p.1 ∧ (G.getD i default) = p := by
    intro p hp
    obtain ⟨i, hi, e⟩ := List.getElem_of_mem hp
    refine ⟨i, hi, ?_, ?_⟩
    · simp [List.getD, hi, e]
    · simp [List.getD, hi, e]
  refine can_from (G.map (·.1)) (fun i => K (G.getD i default)) ?_ ?_ (G.length + 1) 0 (-1) ?_ (Nat.two_pow_pos _) ?_ (.inl ⟨rfl, ?_⟩)
  · intro i j hi hj hbh
    rw [hlen] at hi hj
    obtain ⟨p, hp, _, e1, e2⟩ := hget i hi
    obtain ⟨q, hq, _, e3, e4⟩ := hget j hj
    rw [e1, e3] at hbh
    rw [e2, e4]
    exact hb p hp q hq hbh
  · intro i hi hwr
    rw [hlen] at hi
    obtain ⟨p, hp, _, e1, e2⟩ := hget i hi
    rw [e1] at hwr ⊢
    rw [e2]
    rcases hr p hp hwr with ⟨hv, hno⟩ | ⟨q0, hq0, hw, hk, hall⟩
    · left
      refine ⟨hv, fun w hw hww => ?_⟩
      rw [hlen] at hw
      obtain ⟨q, hq, _, e3, e4⟩ := hget w hw
      rw [e3] at hww
      rw [e4]
      exact hno q hq hww
    · right
      obtain ⟨w0, hw0, e3, e4⟩ := hidx q0 hq0
      refine ⟨w0, by rw [hlen]; exact hw0, by rw [e3]; exact hw, by rw [e4]; exact hk, fun w hw hww h1 h2 => ?_⟩
      rw [hlen] at hw
      obtain ⟨q, hq, _, e5, e6⟩ := hget w hw
      rw [e5] at hww ⊢
      rw [e6] at h1 h2
      rw [e4] at h1
      exact hall q hq hww h1 h2
  · rw [hlen]
    have := List.length_filter_le (fun j => !bit 0 j) (List.range G.length)
    rw [List.length_range] at this
    unfold left
    omega
  · intro i j _ _ h
    rw [bit_test] at h
    simp at h
  · intro w _ h
    rw [bit_test] at h
    simp at h
end Go.Proofs.Ytbibibpliahclaa.Cp.Pl
