/-
  What follows from the invariant of the echo algorithm: the tree, the counts, the end (no program is named).
-/
import Derived.Test.YtaodgbeobdholaaEchoPlain
namespace Go.Proofs.Ytaodgbeobdholaa.Ec

def nearOf (L : List (Nat × Nat)) (i : Nat) : List Nat := L.flatMap fun l => if l.1 = i then [l.2] else if l.2 = i then [l.1] else []
theorem nearOf_snoc (L : List (Nat × Nat)) (l : Nat × Nat) (i : Nat) : nearOf (L ++ [l]) i = nearOf L i ++ if l.1 = i then [l.2] else if l.2 = i then [l.1] else [] := by simp [nearOf]
structure Good (n : Nat) (L : List (Nat × Nat)) : Prop where
  lt : ∀ l ∈ L, l.1 < n ∧ l.2 < n ∧ l.1 ≠ l.2
  once : L.Pairwise fun a b => a ≠ b ∧ a ≠ (b.2, b.1)
def Adj (L : List (Nat × Nat)) (i j : Nat) : Prop := (i, j) ∈ L ∨ (j, i) ∈ L
theorem mem_nearOf {L : List (Nat × Nat)} (hL : ∀ l ∈ L, l.1 ≠ l.2) {i j : Nat} : j ∈ nearOf L i ↔ Adj L i j := by
  unfold nearOf Adj
  rw [List.mem_flatMap]
  constructor
  · rintro ⟨⟨a, b⟩, hl, hj⟩
    by_cases h1 : a = i
    · subst h1; simp at hj; subst hj; exact .inl hl
    · by_cases h2 : b = i
      · subst h2; simp [h1] at hj; subst hj; exact .inr hl
      · simp [h1, h2] at hj
  · rintro (h | h)
    · exact ⟨_, h, by simp⟩
    · refine ⟨_, h, ?_⟩
      have := hL _ h
      simp at this ⊢
      simp [this]
theorem nearOf_nodup {L : List (Nat × Nat)} (hL : ∀ l ∈ L, l.1 ≠ l.2) (ho : L.Pairwise fun a b => a ≠ b ∧ a ≠ (b.2, b.1)) (i : Nat) : (nearOf L i).Nodup := by
  induction L with
  | nil => simp [nearOf]
  | cons l L ih =>
    have ih' := ih (fun l hl => hL l (by simp [hl])) (List.pairwise_cons.1 ho).2
    have h1 := (List.pairwise_cons.1 ho).1
    obtain ⟨a, b⟩ := l
    have hm : ∀ j, j ∈ nearOf L i ↔ Adj L i j := fun j => mem_nearOf fun l hl => hL l (by simp [hl])
    have e : nearOf ((a, b) :: L) i = (if a = i then [b] else if b = i then [a] else []) ++ nearOf L i := by simp [nearOf]
    rw [e]
    by_cases h2 : a = i
    · subst h2
      rw [if_pos rfl]
      refine List.nodup_cons.2 ⟨fun h => ?_, ih'⟩
      rcases (hm b).1 h with h | h
      · exact (h1 _ h).1 rfl
      · exact (h1 _ h).2 rfl
    · rw [if_neg h2]
      by_cases h3 : b = i
      · subst h3
        rw [if_pos rfl]
        refine List.nodup_cons.2 ⟨fun h => ?_, ih'⟩
        rcases (hm a).1 h with h | h
        · exact (h1 _ h).2 rfl
        · exact (h1 _ h).1 rfl
      · rw [if_neg h3]; exact ih'
theorem net {n : Nat} {L : List (Nat × Nat)} (G : Good n L) {near : Nat → List Nat} (hp : ∀ i, (near i).Perm (nearOf L i)) : Net near (Adj L) where
  mem i j := by rw [(hp i).mem_iff]; exact mem_nearOf fun l hl => (G.lt l hl).2.2
  nodup i := (hp i).nodup_iff.2 (nearOf_nodup (fun l hl => (G.lt l hl).2.2) G.once i)
  symm i j h := h.elim .inr .inl
  irr i h := h.elim (fun h => (G.lt _ h).2.2 rfl) (fun h => (G.lt _ h).2.2 rfl)

/-! who is joined with one -/
def jn (v : Nat) (L : List (Nat × Nat)) : Nat := L.foldl (fun v l => if v.testBit l.1 = true ∨ v.testBit l.2 = true then v ||| 2 ^ l.1 ||| 2 ^ l.2 else v) v
def jns (L : List (Nat × Nat)) : Nat → Nat → Nat
  | 0, v => v
  | k + 1, v => jn (jns L k v) L
theorem or_bit (v a b i : Nat) : (v ||| 2 ^ a ||| 2 ^ b).testBit i = (v.testBit i || decide (a = i) || decide (b = i)) := by
  rw [Nat.testBit_or, Nat.testBit_or, Nat.testBit_two_pow, Nat.testBit_two_pow]
theorem jn_mono {L : List (Nat × Nat)} {v i : Nat} (h : v.testBit i = true) : (jn v L).testBit i = true := by
  unfold jn
  induction L generalizing v with
  | nil => exact h
  | cons l L ih =>
    rw [List.foldl_cons]
    apply ih
    split
    · rw [or_bit, h]; rfl
    · exact h
theorem jn_has {L : List (Nat × Nat)} {v : Nat} {l : Nat × Nat} (hl : l ∈ L) (h : v.testBit l.1 = true ∨ v.testBit l.2 = true) : (jn v L).testBit l.1 = true ∧ (jn v L).testBit l.2 = true := by
  induction L generalizing v with
  | nil => cases hl
  | cons m L ih =>
    have e : jn v (m :: L) = jn (if v.testBit m.1 = true ∨ v.testBit m.2 = true then v ||| 2 ^ m.1 ||| 2 ^ m.2 else v) L := rfl
    rw [e]
    rcases List.mem_cons.1 hl with rfl | hl
    · rw [if_pos h]
      exact ⟨jn_mono (by rw [or_bit]; simp), jn_mono (by rw [or_bit]; simp)⟩
    · refine ih hl ?_
      split
      · rw [or_bit, or_bit]
        rcases h with h | h <;> simp [h]
      · exact h
theorem jn_sub {L : List (Nat × Nat)} {v : Nat} {T : Nat → Prop} (hT : ∀ l ∈ L, T l.1 ∨ T l.2 → T l.1 ∧ T l.2) (h : ∀ i, v.testBit i = true → T i) : ∀ i, (jn v L).testBit i = true → T i := by
  unfold jn
  induction L generalizing v with
  | nil => exact h
  | cons l L ih =>
    rw [List.foldl_cons]
    refine ih (fun l hl => hT l (by simp [hl])) ?_
    split
    · next hc =>
      have h2 := hT l (by simp) (hc.elim (fun h1 => .inl (h _ h1)) (fun h1 => .inr (h _ h1)))
      intro i hi
      rw [or_bit] at hi
      simp at hi
      rcases hi with (hi | hi) | hi
      · exact h i hi
      · exact hi ▸ h2.1
      · exact hi ▸ h2.2
    · exact h
theorem jns_sub {L : List (Nat × Nat)} {v : Nat} {T : Nat → Prop} (hT : ∀ l ∈ L, T l.1 ∨ T l.2 → T l.1 ∧ T l.2) (h : ∀ i, v.testBit i = true → T i) (k : Nat) : ∀ i, (jns L k v).testBit i = true → T i := by
  induction k with
  | zero => exact h
  | succ k ih => exact jn_sub hT ih
def cnt (n v : Nat) : Nat := ((List.range n).filter fun i => v.testBit i).length
theorem cnt_le (n v : Nat) : cnt n v ≤ n := by
  unfold cnt
  have := List.length_filter_le (fun i => v.testBit i) (List.range n)
  simpa using this
theorem jn_grows {n : Nat} {L : List (Nat × Nat)} {v : Nat} (hn : ∀ i, (jn v L).testBit i = true → i < n) (h : jn v L ≠ v) : cnt n v + 1 ≤ cnt n (jn v L) := by
  obtain ⟨i, hi⟩ : ∃ i, (jn v L).testBit i ≠ v.testBit i := by
    apply Classical.byContradiction
    intro hc
    exact h (Nat.eq_of_testBit_eq fun i => Classical.byContradiction fun hi => hc ⟨i, hi⟩)
  have hv : v.testBit i = false := by
    cases e : v.testBit i with
    | false => rfl
    | true => rw [e, jn_mono e] at hi; exact absurd rfl hi
  have hj : (jn v L).testBit i = true := by
    cases e : (jn v L).testBit i with
    | true => rfl
    | false => rw [e, hv] at hi; exact absurd rfl hi
  have h1 : (i :: ((List.range n).filter fun i => v.testBit i)).length ≤ ((List.range n).filter fun i => (jn v L).testBit i).length := by
    refine len_le (List.nodup_cons.2 ⟨by simp [hv], List.nodup_range.filter _⟩) fun x hx => ?_
    rcases List.mem_cons.1 hx with rfl | hx
    · simp [hn _ hj, hj]
    · simp at hx ⊢
      exact ⟨hx.1, jn_mono hx.2⟩
  simpa [cnt] using h1
def Closed (L : List (Nat × Nat)) (v : Nat) : Prop := ∀ l ∈ L, v.testBit l.1 = true ∨ v.testBit l.2 = true → v.testBit l.1 = true ∧ v.testBit l.2 = true
theorem jns_closed {n start : Nat} {L : List (Nat × Nat)} (hs : start < n) (hL : ∀ l ∈ L, l.1 < n ∧ l.2 < n) : Closed L (jns L n (2 ^ start)) := by
  have hlt : ∀ k i, (jns L k (2 ^ start)).testBit i = true → i < n := fun k => jns_sub (T := fun i => i < n) (fun l hl _ => hL l hl) (fun i hi => by
    rw [Nat.testBit_two_pow] at hi; simp at hi; omega) k
  have h0 : 1 ≤ cnt n (2 ^ start) := by
    have : start ∈ (List.range n).filter fun i => (2 ^ start).testBit i := by simp [hs]
    exact List.length_pos_of_mem this
  have key : ∀ k, (∃ v, jns L k (2 ^ start) = v ∧ jn v L = v) ∨ k + 1 ≤ cnt n (jns L k (2 ^ start)) := by
    intro k
    induction k with
    | zero => exact .inr h0
    | succ k ih =>
      rcases ih with ⟨v, h1, h2⟩ | ih
      · left; exact ⟨v, by show jn (jns L k _) L = v; rw [h1, h2], h2⟩
      · by_cases e : jn (jns L k (2 ^ start)) L = jns L k (2 ^ start)
        · left; exact ⟨_, e, e⟩
        · right
          have := jn_grows (n := n) (hlt (k + 1)) e
          show k + 1 + 1 ≤ cnt n (jn _ L)
          omega
  rcases key n with ⟨v, h1, h2⟩ | h
  · rw [h1]
    intro l hl hc
    rw [← h2]
    exact jn_has hl hc
  · have := cnt_le n (jns L n (2 ^ start)); omega
theorem jns_start (L : List (Nat × Nat)) (start k : Nat) : (jns L k (2 ^ start)).testBit start = true := by
  induction k with
  | zero => show (2 ^ start).testBit start = true; rw [Nat.testBit_two_pow]; simp
  | succ k ih => exact jn_mono ih

section
variable {near : Nat → List Nat} {start n : Nat} {s : ES} {J : List Nat} {R L : List (Nat × Nat)}
theorem in_set (h : Tree (Adj L) start s.frm J) {v : Nat} (hc : Closed L v) (hs : v.testBit start = true) : ∀ i ∈ J, v.testBit i = true :=
  h.down hs fun i _ p _ _ _ ha hp => by
    rcases ha with ha | ha
    · exact (hc _ ha (.inl hp)).2
    · exact (hc _ ha (.inr hp)).1
def pairs (L : List (Nat × Nat)) : List (Nat × Nat) := L.flatMap fun l => [(l.1, l.2), (l.2, l.1)]
theorem pairs_len (L : List (Nat × Nat)) : (pairs L).length = 2 * L.length := by
  induction L with
  | nil => rfl
  | cons l L ih => unfold pairs at ih ⊢; rw [List.flatMap_cons, List.length_append, ih]; simp; omega
theorem mem_pairs {i j : Nat} : (i, j) ∈ pairs L ↔ Adj L i j := by
  unfold pairs Adj
  rw [List.mem_flatMap]
  constructor
  · rintro ⟨⟨a, b⟩, hl, hj⟩
    simp at hj
    rcases hj with ⟨rfl, rfl⟩ | ⟨rfl, rfl⟩
    · exact .inl hl
    · exact .inr hl
  · rintro (h | h)
    · exact ⟨_, h, by simp⟩
    · exact ⟨_, h, by simp⟩
theorem pairs_nodup (hL : ∀ l ∈ L, l.1 ≠ l.2) (ho : L.Pairwise fun a b => a ≠ b ∧ a ≠ (b.2, b.1)) : (pairs L).Nodup := by
  induction L with
  | nil => simp [pairs]
  | cons l L ih =>
    have ih' := ih (fun l hl => hL l (by simp [hl])) (List.pairwise_cons.1 ho).2
    have h1 := (List.pairwise_cons.1 ho).1
    obtain ⟨a, b⟩ := l
    have hab := hL (a, b) (by simp)
    simp at hab
    have e : pairs ((a, b) :: L) = (a, b) :: (b, a) :: pairs L := rfl
    rw [e]
    refine List.nodup_cons.2 ⟨fun h => ?_, List.nodup_cons.2 ⟨fun h => ?_, ih'⟩⟩
    · rcases List.mem_cons.1 h with h | h
      · simp at h; exact hab h.1
      · rcases mem_pairs.1 h with h | h
        · exact (h1 _ h).1 rfl
        · exact (h1 _ h).2 rfl
    · rcases mem_pairs.1 h with h | h
      · exact (h1 _ h).2 rfl
      · exact (h1 _ h).1 rfl
/-- no more messages than two by each link of those that are joined -/
theorem few (h : Inv near (Adj L) start s J R) {v : Nat} (hc : Closed L v) (hs : v.testBit start = true) : s.sent ≤ 2 * (L.filter fun l => v.testBit l.1).length := by
  rw [h.sent, ← pairs_len]
  refine len_le h.nodup fun m hm => ?_
  obtain ⟨i, j⟩ := m
  obtain ⟨ha, hi, _⟩ := (h.mem i j).1 hm
  have hv := in_set h.tree hc hs i hi
  rw [mem_pairs]
  rcases ha with ha | ha
  · exact .inl (List.mem_filter.2 ⟨ha, hv⟩)
  · exact .inr (List.mem_filter.2 ⟨ha, (hc _ ha (.inr hv)).1⟩)
/-- when it is done -/
theorem all_done (N : Net near (Adj L)) (G : Good n L) (h : Inv near (Adj L) start s J R) {v : Nat} (hc : Closed L v) (hs : v.testBit start = true) (hm : ∀ T : Nat → Prop, (∀ l ∈ L, T l.1 ∨ T l.2 → T l.1 ∧ T l.2) → T start → ∀ i, v.testBit i = true → T i) (hw : s.wait start = 0) :
    (∀ i, v.testBit i = true ↔ i ∈ J) ∧ s.sent = 2 * (L.filter fun l => v.testBit l.1).length := by
  obtain ⟨_, hcl⟩ := h.done N hw
  have hJ : ∀ i, v.testBit i = true ↔ i ∈ J := fun i => ⟨hm (· ∈ J) (fun l hl ht => by
    rcases ht with ht | ht
    · exact ⟨ht, (hcl _ _ ht (.inl hl)).1⟩
    · exact ⟨(hcl _ _ ht (.inr hl)).1, ht⟩) h.tree.start_mem i, in_set h.tree hc hs i⟩
  refine ⟨hJ, Nat.le_antisymm (few h hc hs) ?_⟩
  rw [h.sent, ← pairs_len]
  refine len_le (pairs_nodup (fun l hl => (G.lt l (List.mem_filter.1 hl).1).2.2) (G.once.filter _)) fun m hm => ?_
  obtain ⟨i, j⟩ := m
  rcases mem_pairs.1 hm with ha | ha
  · obtain ⟨h1, h2⟩ := List.mem_filter.1 ha
    exact (hcl i j ((hJ i).1 h2) (.inl h1)).2
  · obtain ⟨h1, h2⟩ := List.mem_filter.1 ha
    have := (hcl j i ((hJ j).1 h2) (.inl h1)).1
    exact (hcl i j this (.inr h1)).2
theorem tree_lt (G : Good n L) (hs : start < n) (h : Tree (Adj L) start s.frm J) : ∀ i ∈ J, i < n := fun i hi => by
  by_cases e : i = start
  · omega
  · obtain ⟨p, _, _, ha⟩ := h.parent hi e
    rcases ha with ha | ha
    · exact (G.lt _ ha).2.1
    · exact (G.lt _ ha).1
theorem chase_congr {f g : Nat → Int} (hf : ∀ i, i ≠ start → f i = g i) : ∀ m k, chase f start n m k = chase g start n m k := by
  intro m
  induction m with
  | zero => intro k; rfl
  | succ m ih =>
    intro k
    rw [chase, chase]
    by_cases e : k = start
    · rw [if_pos e, if_pos e]
    · rw [if_neg e, if_neg e, hf k e, ih]
/-- who heard, heard by a link; and from it one comes to the start -/
theorem tree_ok (G : Good n L) (hs : start < n) (h : Inv near (Adj L) start s J R) {i : Nat} (hi : i ≠ start) (hf : s.frm i ≠ -1) : ∃ p : Nat, p < n ∧ s.frm i = p ∧ Adj L i p ∧ chase (upI s.frm start (-1)) start n n i = true := by
  have hJ := (h.heard i).2 hf
  obtain ⟨p, hp, hfp, ha⟩ := h.tree.parent hJ hi
  have hlt := tree_lt G hs h.tree
  refine ⟨p, hlt p hp, hfp, ha.symm, ?_⟩
  rw [chase_congr (g := s.frm) (fun i hi => upI_ne hi)]
  have h1 : J.length ≤ (List.range n).length := len_le h.tree.nodup fun x hx => by simpa using hlt x hx
  exact h.tree.chase hlt i hJ n (by simp at h1; omega)
end
end Go.Proofs.Ytaodgbeobdholaa.Ec
