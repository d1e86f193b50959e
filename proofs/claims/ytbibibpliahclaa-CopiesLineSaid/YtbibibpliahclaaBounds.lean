/-
  The sizes of the numbers in the copies' state (no program is named).
-/
import Derived.Test.YtbibibpliahclaaModel
namespace Go.Proofs.Ytbibibpliahclaa.Cp

structure FineC (m : Nat) (c : Cl) : Prop where
  many0 : 0 ≤ c.many
  many1 : c.many ≤ m
  reached : c.reached < 64
  bs0 : 0 ≤ c.bs
  bs1 : c.bs ≤ 12 * m
  part : c.part = 0 ∨ c.part = 1 ∨ c.part = 2
structure Fine (n m : Nat) (s : St) : Prop where
  six : s.cl.length = 6
  len : s.l.length = n
  failed : s.failed < 64
  stamp : ∀ k ∈ s.l, 0 ≤ k.stamp ∧ k.stamp ≤ 12 * m
  cl : ∀ c ∈ s.cl, FineC m c
  ops : s.ops.length ≤ m

theorem FineC.mono {m m' : Nat} {c : Cl} (h : FineC m c) (hm : m ≤ m') : FineC m' c := by
  refine ⟨h.many0, ?_, h.reached, h.bs0, ?_, h.part⟩
  · have := h.many1; omega
  · have := h.bs1; omega
theorem Fine.mono {n m m' : Nat} {s : St} (h : Fine n m s) (hm : m ≤ m') : Fine n m' s :=
  ⟨h.six, h.len, h.failed, fun k hk => by have := h.stamp k hk; omega, fun c hc => (h.cl c hc).mono hm, Nat.le_trans h.ops hm⟩
theorem FineC.default (m : Nat) : FineC m { part := 0, beg := 0, wr := false, val := 0, reached := 0, many := 0, bs := 0, bv := 0 } := by
  constructor <;> simp; omega

theorem or_lt64 (a t : Nat) (ha : a < 64) (ht : t < 6) : a ||| 2 ^ t < 64 := by
  have h2 : 2 ^ t < 2 ^ 6 := Nat.pow_lt_pow_right (by omega) ht
  exact Nat.or_lt_two_pow (n := 6) (by omega) h2

theorem above_gt (s i : Int) (hi0 : 0 ≤ i) (hi : i < 6) : s < above s i := by
  unfold above; split <;> omega
theorem above_le (s i : Int) (hi0 : 0 ≤ i) (hi : i < 6) : above s i ≤ s + 6 := by
  unfold above; split <;> omega
theorem above_mod (s i : Int) (hi0 : 0 ≤ i) (hi : i < 6) : above s i % 6 = i := by
  unfold above; split <;> omega

theorem Fine.put {n m : Nat} {s : St} (h : Fine n m s) (i : Nat) (c : Cl) (hc : FineC m c) : Fine n m (putc s i c) := by
  refine ⟨by simpa [putc] using h.six, h.len, h.failed, h.stamp, fun d hd => ?_, h.ops⟩
  rcases List.mem_or_eq_of_mem_set hd with hd | rfl
  · exact h.cl d hd
  · exact hc

theorem meet_fst {m : Nat} {c : Cl} {k : Kept} (hc : FineC m c) (hk : 0 ≤ k.stamp ∧ k.stamp ≤ 12 * m) : FineC m (meet c k).1 := by
  unfold meet
  split
  · exact ⟨hc.many0, hc.many1, hc.reached, hk.1, hk.2, hc.part⟩
  · split <;> exact hc
theorem meet_snd {m : Nat} {c : Cl} {k : Kept} (hc : FineC m c) (hk : 0 ≤ k.stamp ∧ k.stamp ≤ 12 * m) : 0 ≤ (meet c k).2.stamp ∧ (meet c k).2.stamp ≤ 12 * m := by
  unfold meet
  split
  · exact hk
  · split
    · exact ⟨hc.bs0, hc.bs1⟩
    · exact hk

theorem Fine.ofReach {n m : Nat} {s : St} (h : Fine n m s) (hn : n ≤ 6) (i t : Nat) (c : Cl) (k : Kept) (now : Int) (hi : i < 6) (ht : t < n) (hc : FineC m c) (hk : 0 ≤ k.stamp ∧ k.stamp ≤ 12 * m) :
    Fine n (m + 1) (reach s i t c k now) := by
  have hk' : 0 ≤ k.stamp ∧ k.stamp ≤ 12 * ((m + 1 : Nat) : Int) := by omega
  have h1 : FineC (m + 1) { c with reached := c.reached ||| 2 ^ t, many := c.many + 1 } := by
    refine ⟨by have := hc.many0; simp; omega, by have := hc.many1; simp; omega, or_lt64 _ _ hc.reached (by omega), hc.bs0, by have := hc.bs1; simp; omega, hc.part⟩
  have h2 := meet_fst h1 hk'
  have h3 := meet_snd h1 hk'
  have hl : ∀ s' : St, Fine n (m + 1) s' → Fine n (m + 1) { s' with l := s.l.set t (meet { c with reached := c.reached ||| 2 ^ t, many := c.many + 1 } k).2 } := by
    intro s' hs'
    refine ⟨hs'.six, by simpa using h.len, hs'.failed, fun d hd => ?_, hs'.cl, hs'.ops⟩
    rcases List.mem_or_eq_of_mem_set hd with hd | rfl
    · have := h.stamp d hd; omega
    · exact h3
  have hs := h.mono (Nat.le_succ m)
  unfold reach
  simp only
  split
  · exact hl _ (hs.put i _ h2)
  · split
    · refine hl _ (hs.put i _ ?_)
      unfold turn
      have hg := above_gt (meet { c with reached := c.reached ||| 2 ^ t, many := c.many + 1 } k).1.bs i (by omega) (by omega)
      have hu := above_le (meet { c with reached := c.reached ||| 2 ^ t, many := c.many + 1 } k).1.bs i (by omega) (by omega)
      have hb : (meet { c with reached := c.reached ||| 2 ^ t, many := c.many + 1 } k).1.bs ≤ 12 * m := by
        unfold meet
        split
        · exact hk.2
        · split <;> exact hc.bs1
      split
      · refine ⟨by simp, by simp; omega, by simp, ?_, ?_, by simp⟩
        · have := h2.bs0; simp only; omega
        · simp only; omega
      · exact ⟨by simp, by simp; omega, by simp, h2.bs0, h2.bs1, by simp⟩
    · have hp : Fine n (m + 1) (putc s i { (meet { c with reached := c.reached ||| 2 ^ t, many := c.many + 1 } k).1 with part := 0, reached := 0, many := 0 }) :=
        hs.put i _ ⟨by simp, by simp; omega, by simp, h2.bs0, h2.bs1, by simp⟩
      have h4 := hl _ hp
      refine ⟨h4.six, h4.len, h4.failed, h4.stamp, h4.cl, ?_⟩
      have := h.ops
      simp
      omega

theorem Fine.getC {n m : Nat} {s : St} (h : Fine n m s) (i : Nat) (hi : i < 6) : s.cl[i]? = some (s.cl.getD i default) ∧ FineC m (s.cl.getD i default) := by
  have h6 : i < s.cl.length := by rw [h.six]; exact hi
  have e : s.cl[i]? = some (s.cl.getD i default) := by simp [List.getD, List.getElem?_eq_getElem h6]
  exact ⟨e, h.cl _ (List.mem_of_getElem? e)⟩
theorem Fine.getK {n m : Nat} {s : St} (h : Fine n m s) (t : Nat) (ht : t < n) : s.l[t]? = some (s.l.getD t default) ∧ 0 ≤ (s.l.getD t default).stamp ∧ (s.l.getD t default).stamp ≤ 12 * m := by
  have h6 : t < s.l.length := by rw [h.len]; exact ht
  have e : s.l[t]? = some (s.l.getD t default) := by simp [List.getD, List.getElem?_eq_getElem h6]
  exact ⟨e, h.stamp _ (List.mem_of_getElem? e)⟩

theorem Fine.ofStep {n m : Nat} {s : St} (h : Fine n m s) (hn : n ≤ 6) (mv : Move) (now : Int) : Fine n (m + 1) (step s mv now).1 := by
  have hs := h.mono (Nat.le_succ m)
  unfold step
  split
  · exact hs
  · split
    · exact hs
    · rename_i h1 h2
      split
      · rename_i h3
        split
        · exact hs
        · refine ⟨hs.six, hs.len, or_lt64 _ _ h.failed ?_, hs.stamp, hs.cl, hs.ops⟩
          have := h.len
          omega
      · rename_i h3
        simp only
        split
        · exact hs
        · split
          · refine hs.put _ _ ?_
            constructor <;> simp [fresh] <;> omega
          · split
            · exact hs
            · split
              · exact hs
              · have hl := h.len
                exact h.ofReach hn _ _ _ _ _ (by omega) (by omega) (h.getC _ (by omega)).2 (h.getK _ (by omega)).2

theorem Fine.ofInit (n : Nat) : Fine n 0 (init n) := by
  refine ⟨by simp [init], by simp [init], by simp [init], fun k hk => ?_, fun c hc => ?_, by simp [init]⟩
  · simp [init] at hk
    obtain ⟨_, rfl⟩ := hk
    simp
  · simp [init] at hc
    subst hc
    exact FineC.default 0
end Go.Proofs.Ytbibibpliahclaa.Cp
