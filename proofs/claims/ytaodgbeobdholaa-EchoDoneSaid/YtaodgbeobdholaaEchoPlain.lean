/-
  Segall's echo algorithm as plain functions, and its invariant (no program is named).
-/
namespace Go.Proofs.Ytaodgbeobdholaa.Ec

/-! lists without a thing twice -/
theorem len_le {α : Type} [DecidableEq α] : ∀ {l m : List α}, l.Nodup → l ⊆ m → l.length ≤ m.length
  | [], _, _, _ => Nat.zero_le _
  | a :: l, m, hn, hs => by
    have ha : a ∈ m := hs (by simp)
    rw [List.nodup_cons] at hn
    have h1 : l ⊆ m.erase a := fun x hx => (List.mem_erase_of_ne (fun (e : x = a) => hn.1 (e ▸ hx))).2 (hs (by simp [hx]))
    have h2 := len_le hn.2 h1
    rw [List.length_erase_of_mem ha] at h2
    have := List.length_pos_of_mem ha
    simp; omega
theorem sub_of_len {α : Type} [DecidableEq α] {l m : List α} (hn : l.Nodup) (hs : l ⊆ m) (hl : m.length ≤ l.length) : m ⊆ l := by
  intro x hx
  apply Classical.byContradiction
  intro hxl
  have h1 : l ⊆ m.erase x := fun y hy => (List.mem_erase_of_ne (fun (e : y = x) => hxl (e ▸ hy))).2 (hs hy)
  have h2 := len_le hn h1
  rw [List.length_erase_of_mem hx] at h2
  have := List.length_pos_of_mem hx
  omega

theorem nodup_map {α β : Type} {f : α → β} (hf : ∀ a b, f a = f b → a = b) : ∀ {l : List α}, l.Nodup → (l.map f).Nodup
  | [], _ => by simp
  | a :: l, h => by
    rw [List.nodup_cons] at h
    rw [List.map_cons, List.nodup_cons]
    exact ⟨fun hm => by
      obtain ⟨b, hb, e⟩ := List.mem_map.1 hm
      exact h.1 (hf _ _ e ▸ hb), nodup_map hf h.2⟩
theorem erase_perm {α : Type} : ∀ {l : List α} {k : Nat} {a : α}, l[k]? = some a → (a :: l.eraseIdx k).Perm l
  | [], k, a, h => by simp at h
  | b :: l, 0, a, h => by simp at h; subst h; exact List.Perm.refl _
  | b :: l, k + 1, a, h => by
    simp at h
    have := erase_perm h
    exact (List.Perm.swap b a _).trans (this.cons b)

def upI (f : Nat → Int) (k : Nat) (v : Int) : Nat → Int := fun x => if x = k then v else f x
theorem upI_same (f : Nat → Int) (k : Nat) (v : Int) : upI f k v k = v := if_pos rfl
theorem upI_ne {f : Nat → Int} {k x : Nat} {v : Int} (h : x ≠ k) : upI f k v x = f x := if_neg h

structure ES where
  way : List (Nat × Nat)
  wait : Nat → Int
  frm : Nat → Int
  sent : Nat
def ES.send (s : ES) (p : Nat × Nat) : ES := { s with way := s.way ++ [p], sent := s.sent + 1 }
def ES.sends (s : ES) (l : List (Nat × Nat)) : ES := { s with way := s.way ++ l, sent := s.sent + l.length }
/-- the first half of take: who was not asked asks on -/
def ES.hear (near : Nat → List Nat) (s : ES) (f t : Nat) : ES :=
  if s.frm t = -1 then { s with frm := upI s.frm t f }.sends (((near t).filter fun j => decide (j ≠ f)).map fun j => (t, j)) else s
/-- the second half: one less is waited for; the last one lets it answer -/
def ES.less (s : ES) (t : Nat) : ES := { s with wait := upI s.wait t (s.wait t - 1) }
def ES.answer (s : ES) (t : Nat) : ES := if s.wait t = 0 ∧ 0 ≤ s.frm t then s.send (t, (s.frm t).toNat) else s
def ES.take (near : Nat → List Nat) (s : ES) (f t : Nat) : ES := ((s.hear near f t).less t).answer t
def ES.move (near : Nat → List Nat) (s : ES) (k : Int) : ES :=
  if k < 0 ∨ (s.way.length : Int) ≤ k then s else
  ES.take near { s with way := s.way.eraseIdx k.toNat } (s.way.getD k.toNat (0, 0)).1 (s.way.getD k.toNat (0, 0)).2
def ES.init (near : Nat → List Nat) (start : Nat) : ES :=
  ES.sends ⟨[], fun i => ((near i).length : Int), fun i => if i = start then -2 else -1, 0⟩ ((near start).map fun j => (start, j))
def play (near : Nat → List Nat) (start : Nat) (order : List Int) : ES := order.foldl (ES.move near) (ES.init near start)

/-! the tree of those who heard -/
inductive Tree (adj : Nat → Nat → Prop) (start : Nat) (frm : Nat → Int) : List Nat → Prop
  | root : Tree adj start frm [start]
  | join {J : List Nat} {p i : Nat} : Tree adj start frm J → p ∈ J → i ∉ J → frm i = p → adj p i → Tree adj start frm (i :: J)
section
variable {adj : Nat → Nat → Prop} {start : Nat}
theorem Tree.congr {frm frm' : Nat → Int} {J : List Nat} (h : Tree adj start frm J) (he : ∀ i ∈ J, frm' i = frm i) : Tree adj start frm' J := by
  induction h with
  | root => exact .root
  | join h hp hi hf ha ih => exact .join (ih fun i hi => he i (by simp [hi])) hp hi ((he _ (by simp)).trans hf) ha
theorem Tree.start_mem {frm : Nat → Int} {J : List Nat} (h : Tree adj start frm J) : start ∈ J := by
  induction h with
  | root => simp
  | join h hp hi hf ha ih => simp [ih]
theorem Tree.nodup {frm : Nat → Int} {J : List Nat} (h : Tree adj start frm J) : J.Nodup := by
  induction h with
  | root => simp
  | join h hp hi hf ha ih => exact List.nodup_cons.2 ⟨hi, ih⟩
theorem Tree.parent {frm : Nat → Int} {J : List Nat} (h : Tree adj start frm J) {i : Nat} (hi : i ∈ J) (hs : i ≠ start) : ∃ p ∈ J, frm i = (p : Nat) ∧ adj p i := by
  induction h with
  | root => simp at hi; exact absurd hi hs
  | @join J p i' h hp hn hf ha ih =>
    rcases List.mem_cons.1 hi with rfl | hi
    · exact ⟨p, by simp [hp], hf, ha⟩
    · obtain ⟨q, hq, h1, h2⟩ := ih hi
      exact ⟨q, by simp [hq], h1, h2⟩
/-- what holds of the start, and goes from a parent to its child, holds of all -/
theorem Tree.down {frm : Nat → Int} {J : List Nat} (h : Tree adj start frm J) {P : Nat → Prop} (h0 : P start) (hs : ∀ i ∈ J, ∀ p ∈ J, i ≠ start → frm i = (p : Nat) → adj p i → P p → P i) : ∀ i ∈ J, P i := by
  induction h with
  | root => intro i hi; simp at hi; subst hi; exact h0
  | @join J p i' h hp hn hf ha ih =>
    have ih' := ih fun i hi p hp => hs i (by simp [hi]) p (by simp [hp])
    intro i hi
    rcases List.mem_cons.1 hi with rfl | hi
    · exact hs _ (by simp) p (by simp [hp]) (fun e => hn (e ▸ h.start_mem)) hf ha (ih' p hp)
    · exact ih' i hi
/-- what holds of one of whose children it holds, holds of all -/
theorem Tree.up {frm : Nat → Int} {J : List Nat} (hst : ∀ p : Nat, frm start ≠ (p : Nat)) (h : Tree adj start frm J) {P : Nat → Prop} (hs : ∀ i ∈ J, (∀ j ∈ J, frm j = (i : Nat) → P j) → P i) : ∀ i ∈ J, P i := by
  have key : ∀ J' : List Nat, Tree adj start frm J' → ∀ K : List Nat, (∀ i ∈ J' ++ K, (∀ j ∈ J' ++ K, frm j = (i : Nat) → P j) → P i) → (∀ i ∈ K, P i) → ∀ i ∈ J', P i := by
    intro J' h
    induction h with
    | root =>
      intro K hs hK i hi
      simp at hi; subst hi
      refine hs _ (by simp) fun j hj hf => ?_
      rcases List.mem_append.1 hj with hj | hj
      · simp at hj; subst hj; exact absurd hf (hst _)
      · exact hK j hj
    | @join J' p i' h hp hn hf ha ih =>
      intro K hs hK
      have h1 : P i' := by
        refine hs _ (by simp) fun j hj hfj => ?_
        rcases List.mem_append.1 hj with hj | hj
        · rcases List.mem_cons.1 hj with rfl | hj
          · rw [hf] at hfj
            exact absurd (by have : p = j := by omega
                             exact this ▸ hp) hn
          · by_cases e : j = start
            · subst e; exact absurd hfj (hst _)
            · obtain ⟨q, hq, hq2, _⟩ := h.parent hj e
              rw [hq2] at hfj
              exact absurd (by have : q = i' := by omega
                               exact this ▸ hq) hn
        · exact hK j hj
      have h2 := ih (i' :: K) (fun i hi hj => hs i (by simp at hi ⊢; rcases hi with h | h | h <;> simp [h]) fun j hj' hf' => hj j (by simp at hj' ⊢; rcases hj' with h | h | h <;> simp [h]) hf')
        (fun i hi => by
          rcases List.mem_cons.1 hi with rfl | hi
          · exact h1
          · exact hK i hi)
      intro i hi
      rcases List.mem_cons.1 hi with rfl | hi
      · exact h1
      · exact h2 i hi
  exact key J h [] (by simpa using hs) (by simp)
/-- from parent to parent one comes to the start -/
def chase (frm : Nat → Int) (start n : Nat) : Nat → Nat → Bool
  | 0, k => decide (k = start)
  | m + 1, k => if k = start then true else decide (0 ≤ frm k ∧ frm k < n) && chase frm start n m (frm k).toNat
theorem Tree.chase {frm : Nat → Int} {J : List Nat} {n : Nat} (h : Tree adj start frm J) (hJ : ∀ i ∈ J, i < n) : ∀ i ∈ J, ∀ m : Nat, J.length ≤ m + 1 → Ec.chase frm start n m i = true := by
  induction h with
  | root =>
    intro i hi m hm
    simp at hi; subst hi
    cases m <;> simp [Ec.chase]
  | @join J p i' h hp hn hf ha ih =>
    intro i hi m hm
    have ih' := ih fun i hi => hJ i (by simp [hi])
    rcases List.mem_cons.1 hi with rfl | hi
    · have hne : i ≠ start := fun e => hn (e ▸ h.start_mem)
      have hJl : 0 < J.length := List.length_pos_of_mem hp
      obtain ⟨m, rfl⟩ : ∃ k, m = k + 1 := ⟨m - 1, by simp at hm; omega⟩
      have hpn := hJ p (by simp [hp])
      rw [Ec.chase, if_neg hne, hf]
      have := ih' p hp m (by simp at hm; omega)
      simp [this]
      omega
    · exact ih' i hi m (by simp at hm; omega)
end

/-! the invariant; R: what was received -/
structure Net (near : Nat → List Nat) (adj : Nat → Nat → Prop) : Prop where
  mem : ∀ i j, j ∈ near i ↔ adj i j
  nodup : ∀ i, (near i).Nodup
  symm : ∀ i j, adj i j → adj j i
  irr : ∀ i, ¬ adj i i
def got (R : List (Nat × Nat)) (i : Nat) : List Nat := (R.filter fun m => decide (m.2 = i)).map (·.1)
theorem mem_got {R : List (Nat × Nat)} {i j : Nat} : j ∈ got R i ↔ (j, i) ∈ R := by
  unfold got
  simp only [List.mem_map, List.mem_filter, decide_eq_true_eq, Prod.exists]
  constructor
  · rintro ⟨a, b, ⟨h1, rfl⟩, rfl⟩; exact h1
  · intro h; exact ⟨j, i, ⟨h, rfl⟩, rfl⟩
theorem got_cons (R : List (Nat × Nat)) (f t i : Nat) : got ((f, t) :: R) i = if t = i then f :: got R i else got R i := by
  unfold got
  by_cases h : t = i
  · simp [h]
  · simp [h]
theorem got_nodup {R : List (Nat × Nat)} (h : R.Nodup) (i : Nat) : (got R i).Nodup := by
  induction R with
  | nil => simp [got]
  | cons m R ih =>
    obtain ⟨f, t⟩ := m
    rw [List.nodup_cons] at h
    rw [got_cons]
    split
    · next e => exact List.nodup_cons.2 ⟨fun hm => h.1 (e ▸ mem_got.1 hm), ih h.2⟩
    · exact ih h.2
structure Inv (near : Nat → List Nat) (adj : Nat → Nat → Prop) (start : Nat) (s : ES) (J : List Nat) (R : List (Nat × Nat)) : Prop where
  tree : Tree adj start s.frm J
  heard : ∀ i, i ∈ J ↔ s.frm i ≠ -1
  root : s.frm start = -2
  mem : ∀ i j, (i, j) ∈ s.way ++ R ↔ adj i j ∧ i ∈ J ∧ ((j : Int) ≠ s.frm i ∨ s.wait i = 0)
  nodup : (s.way ++ R).Nodup
  wait : ∀ i, s.wait i = ((near i).length : Int) - (got R i).length
  sent : s.sent = (s.way ++ R).length
  to : ∀ i j, (i, j) ∈ R → j ∈ J
  by_ : ∀ i ∈ J, i ≠ start → ∀ p : Nat, s.frm i = p → (p, i) ∈ R

section
variable {near : Nat → List Nat} {adj : Nat → Nat → Prop} {start : Nat} {s : ES} {J : List Nat} {R : List (Nat × Nat)}
theorem Inv.init (N : Net near adj) (start : Nat) : Inv near adj start (ES.init near start) [start] [] := by
  have hf : ∀ i, (ES.init near start).frm i = if i = start then -2 else -1 := fun _ => rfl
  refine ⟨.root, fun i => ?_, by rw [hf, if_pos rfl], fun i j => ?_, ?_, fun i => by simp [ES.init, ES.sends, got], by simp [ES.init, ES.sends], fun i j h => by simp at h, fun i hi hs => by simp at hi; exact absurd hi hs⟩
  · rw [hf]; by_cases h : i = start <;> simp [h]
  · simp only [ES.init, ES.sends, List.nil_append, List.append_nil, List.mem_map, Prod.mk.injEq, List.mem_singleton]
    constructor
    · rintro ⟨a, ha, rfl, rfl⟩
      exact ⟨(N.mem _ _).1 ha, rfl, .inl (by rw [if_pos rfl]; omega)⟩
    · rintro ⟨ha, rfl, _⟩
      exact ⟨j, (N.mem _ _).2 ha, rfl, rfl⟩
  · simp only [ES.init, ES.sends, List.nil_append, List.append_nil]
    exact nodup_map (fun a b h => by simpa using h) (N.nodup start)
theorem Inv.got_sub (N : Net near adj) (h : Inv near adj start s J R) (i : Nat) : got R i ⊆ near i := by
  intro j hj
  have := ((h.mem j i).1 (List.mem_append_right _ (mem_got.1 hj))).1
  exact (N.mem i j).2 (N.symm _ _ this)
theorem Inv.R_nodup (h : Inv near adj start s J R) : R.Nodup := (List.nodup_append.1 h.nodup).2.1
theorem Inv.all_got (N : Net near adj) (h : Inv near adj start s J R) {i : Nat} (hw : s.wait i = 0) : near i ⊆ got R i :=
  sub_of_len (got_nodup h.R_nodup i) (h.got_sub N i) (by have := h.wait i; omega)
theorem Inv.wait_pos (N : Net near adj) (h : Inv near adj start s J R) {f t : Nat} (hm : (f, t) ∈ s.way) : 1 ≤ s.wait t ∧ f ∉ got R t := by
  have hn : f ∉ got R t := fun hg => (List.nodup_append.1 h.nodup).2.2 _ hm _ (mem_got.1 hg) rfl
  have h1 : (f :: got R t).length ≤ (near t).length := len_le (List.nodup_cons.2 ⟨hn, got_nodup h.R_nodup t⟩) (fun x hx => by
    rcases List.mem_cons.1 hx with rfl | hx
    · exact (N.mem _ _).2 (N.symm _ _ ((h.mem x t).1 (List.mem_append_left _ hm)).1)
    · exact h.got_sub N t hx)
  have := h.wait t
  simp at h1
  exact ⟨by omega, hn⟩
theorem Inv.wait_ok (h : Inv near adj start s J R) {f t i : Nat} {w : Int} (hi : s.wait i = w) : ((near i).length : Int) - (got ((f, t) :: R) i).length = upI s.wait t (s.wait t - 1) i := by
  rw [got_cons]
  by_cases e : t = i
  · subst e; rw [if_pos rfl, upI_same, h.wait]; simp; omega
  · rw [if_neg e, upI_ne (Ne.symm e), h.wait]
theorem Inv.take (N : Net near adj) (h : Inv near adj start s J R) {f t k : Nat} (hk : s.way[k]? = some (f, t)) :
    ∃ J', Inv near adj start (ES.take near { s with way := s.way.eraseIdx k } f t) J' ((f, t) :: R) := by
  obtain ⟨hkl, hke⟩ := List.getElem?_eq_some_iff.1 hk
  have hmem : (f, t) ∈ s.way := List.mem_of_getElem? hk
  obtain ⟨hw1, hng⟩ := h.wait_pos N hmem
  obtain ⟨hadj, hfJ, hsnt⟩ := (h.mem f t).1 (List.mem_append_left _ hmem)
  have hperm : (s.way.eraseIdx k ++ ((f, t) :: R)).Perm (s.way ++ R) := by
    have h1 := erase_perm hk
    exact List.perm_middle.trans (h1.append_right R)
  generalize hW : s.way.eraseIdx k = W at hperm ⊢
  have hnd := hperm.nodup_iff.2 h.nodup
  have hmm : ∀ i j, (i, j) ∈ W ++ ((f, t) :: R) ↔ adj i j ∧ i ∈ J ∧ ((j : Int) ≠ s.frm i ∨ s.wait i = 0) := fun i j => by rw [hperm.mem_iff]; exact h.mem i j
  have hlen := hperm.length_eq
  by_cases hJ : t ∈ J
  · have hft : s.frm t ≠ -1 := (h.heard t).1 hJ
    have e1 : ES.take near { s with way := W } f t = ES.answer ⟨W, upI s.wait t (s.wait t - 1), s.frm, s.sent⟩ t := by
      unfold ES.take ES.hear ES.less
      rw [if_neg hft]
    rw [e1]
    unfold ES.answer
    by_cases ha : s.wait t - 1 = 0 ∧ 0 ≤ s.frm t
    · rw [if_pos (by simpa [upI_same] using ha)]
      have hts : t ≠ start := fun e => by rw [e, h.root] at ha; omega
      obtain ⟨p, hpJ, hp, hpa⟩ := h.tree.parent hJ hts
      have hpn : (s.frm t).toNat = p := by omega
      have hnew : (t, p) ∉ W ++ ((f, t) :: R) := fun hm => by
        have := ((hmm t p).1 hm).2.2
        omega
      refine ⟨J, h.tree, h.heard, h.root, fun i j => ?_, ?_, fun i => (h.wait_ok rfl).symm, ?_, fun i j hij => ?_, fun i hi hs p hp => List.mem_cons_of_mem _ (h.by_ i hi hs p hp)⟩
      · simp only [ES.send, hpn, List.append_assoc, List.cons_append, List.nil_append]
        have hx : (i, j) ∈ W ++ (t, p) :: (f, t) :: R ↔ (i, j) = (t, p) ∨ (i, j) ∈ W ++ ((f, t) :: R) := by simp [or_left_comm]
        rw [hx, hmm]
        by_cases hit : i = t
        · subst hit
          rw [upI_same]
          constructor
          · rintro (he | ⟨h1, h2, h3⟩)
            · simp at he; subst he; exact ⟨N.symm _ _ hpa, hJ, .inr ha.1⟩
            · exact ⟨h1, h2, .inr ha.1⟩
          · rintro ⟨h1, h2, _⟩
            by_cases e : j = p
            · exact .inl (by rw [e])
            · exact .inr ⟨h1, h2, .inl (by omega)⟩
        · rw [upI_ne hit]
          constructor
          · rintro (he | h1)
            · simp at he; exact absurd he.1 hit
            · exact h1
          · intro h1; exact .inr h1
      · simp only [ES.send, hpn, List.append_assoc, List.cons_append, List.nil_append]
        exact (List.perm_middle.nodup_iff).2 (List.nodup_cons.2 ⟨hnew, hnd⟩)
      · simp only [ES.send, List.append_assoc, List.length_append, List.length_cons, List.cons_append, List.nil_append]
        have := h.sent
        simp at hlen this
        omega
      · rcases List.mem_cons.1 hij with he | hij
        · simp at he; rw [he.2]; exact hJ
        · exact h.to i j hij
    · rw [if_neg (by simpa [upI_same] using ha)]
      refine ⟨J, h.tree, h.heard, h.root, fun i j => ?_, hnd, fun i => (h.wait_ok rfl).symm, ?_, fun i j hij => ?_, fun i hi hs p hp => List.mem_cons_of_mem _ (h.by_ i hi hs p hp)⟩
      · simp only
        rw [hmm]
        by_cases hit : i = t
        · subst hit
          rw [upI_same]
          constructor
          · rintro ⟨h1, h2, h3⟩
            exact ⟨h1, h2, .inl (by omega)⟩
          · rintro ⟨h1, h2, h3⟩
            refine ⟨h1, h2, .inl ?_⟩
            omega
        · rw [upI_ne hit]
      · simp only; have := h.sent; omega
      · rcases List.mem_cons.1 hij with he | hij
        · simp at he; rw [he.2]; exact hJ
        · exact h.to i j hij
  · have hft : s.frm t = -1 := by
      apply Classical.byContradiction
      intro hn
      exact hJ ((h.heard t).2 hn)
    have hne : f ≠ t := fun e => N.irr t (e ▸ hadj)
    have hts : t ≠ start := fun e => hJ (e ▸ h.tree.start_mem)
    have htree : Tree adj start (upI s.frm t f) (t :: J) := .join (h.tree.congr fun i hi => upI_ne fun e => hJ (e ▸ hi)) hfJ hJ (upI_same _ _ _) hadj
    have hheard : ∀ i, i ∈ t :: J ↔ upI s.frm t f i ≠ -1 := fun i => by
      by_cases e : i = t
      · subst e; rw [upI_same]; simp
      · rw [upI_ne e]; simp [e]; exact h.heard i
    have hroot : upI s.frm t f start = -2 := by rw [upI_ne (Ne.symm hts)]; exact h.root
    have hno : ∀ j, (t, j) ∉ W ++ ((f, t) :: R) := fun j hm => hJ ((hmm t j).1 hm).2.1
    have hby : ∀ i ∈ t :: J, i ≠ start → ∀ p : Nat, upI s.frm t f i = p → (p, i) ∈ (f, t) :: R := fun i hi hs p hp => by
      by_cases e : i = t
      · subst e; rw [upI_same] at hp; have : f = p := by omega
        subst this; simp
      · rw [upI_ne e] at hp
        rcases List.mem_cons.1 hi with hi | hi
        · exact absurd hi e
        · exact List.mem_cons_of_mem _ (h.by_ i hi hs p hp)
    have hto : ∀ i j, (i, j) ∈ (f, t) :: R → j ∈ t :: J := fun i j hij => by
      rcases List.mem_cons.1 hij with he | hij
      · simp at he; simp [he.2]
      · exact List.mem_cons_of_mem _ (h.to i j hij)
    have e1 : ES.take near { s with way := W } f t = ES.answer ⟨W ++ ((near t).filter fun j => decide (j ≠ f)).map (fun j => (t, j)), upI s.wait t (s.wait t - 1), upI s.frm t f, s.sent + (((near t).filter fun j => decide (j ≠ f)).map (fun j => (t, j))).length⟩ t := by
      unfold ES.take ES.hear ES.less ES.sends
      rw [if_pos hft]
    rw [e1]
    generalize hA : ((near t).filter fun j => decide (j ≠ f)).map (fun j => (t, j)) = A
    have hAm : ∀ i j, (i, j) ∈ A ↔ i = t ∧ adj t j ∧ j ≠ f := fun i j => by
      rw [← hA]
      simp only [List.mem_map, List.mem_filter, decide_eq_true_eq, Prod.mk.injEq]
      constructor
      · rintro ⟨a, ⟨h1, h2⟩, rfl, rfl⟩; exact ⟨rfl, (N.mem _ _).1 h1, h2⟩
      · rintro ⟨rfl, h1, h2⟩; exact ⟨j, ⟨(N.mem _ _).2 h1, h2⟩, rfl, rfl⟩
    have hAn : A.Nodup := by
      rw [← hA]
      exact nodup_map (fun a b h => by simpa using h) ((N.nodup t).filter _)
    have hpA : (W ++ A ++ ((f, t) :: R)).Perm (A ++ (W ++ ((f, t) :: R))) := by
      rw [← List.append_assoc A]
      exact List.perm_append_comm.append_right _
    have hndA : (W ++ A ++ ((f, t) :: R)).Nodup := hpA.nodup_iff.2 (List.nodup_append.2 ⟨hAn, hnd, fun a ha b hb e => by
      subst e
      obtain ⟨i, j⟩ := a
      rw [((hAm i j).1 ha).1] at hb
      exact hno j hb⟩)
    have hmA : ∀ i j, (i, j) ∈ W ++ A ++ ((f, t) :: R) ↔ (i = t ∧ adj t j ∧ j ≠ f) ∨ (adj i j ∧ i ∈ J ∧ ((j : Int) ≠ s.frm i ∨ s.wait i = 0)) := fun i j => by
      rw [hpA.mem_iff, List.mem_append, hmm, hAm]
    have hlA := hpA.length_eq
    have hsent := h.sent
    unfold ES.answer
    by_cases ha : s.wait t - 1 = 0
    · rw [if_pos (by simp [upI_same]; omega)]
      have hfn : (upI s.frm t f t).toNat = f := by rw [upI_same]; omega
      have hnew : (t, f) ∉ W ++ A ++ ((f, t) :: R) := fun hm => by
        rcases (hmA t f).1 hm with h1 | h1
        · exact h1.2.2 rfl
        · exact hJ h1.2.1
      have hx : (W ++ A ++ [(t, f)] ++ ((f, t) :: R)).Perm ((t, f) :: (W ++ A ++ ((f, t) :: R))) := by
        rw [List.append_assoc (W ++ A)]
        exact List.perm_middle
      refine ⟨t :: J, htree, hheard, hroot, fun i j => ?_, ?_, fun i => (h.wait_ok rfl).symm, ?_, hto, hby⟩
      · simp only [ES.send, hfn]
        rw [hx.mem_iff, List.mem_cons, hmA]
        by_cases hit : i = t
        · subst hit
          rw [upI_same, upI_same]
          constructor
          · rintro (he | ⟨_, h1, h2⟩ | ⟨_, h1, _⟩)
            · simp at he; subst he; exact ⟨N.symm _ _ hadj, by simp, .inr ha⟩
            · exact ⟨h1, by simp, .inr ha⟩
            · exact absurd h1 hJ
          · rintro ⟨h1, _, _⟩
            by_cases e : j = f
            · exact .inl (by rw [e])
            · exact .inr (.inl ⟨rfl, h1, e⟩)
        · rw [upI_ne hit, upI_ne hit]
          constructor
          · rintro (he | ⟨h1, _⟩ | ⟨h1, h2, h3⟩)
            · simp at he; exact absurd he.1 hit
            · exact absurd h1 hit
            · exact ⟨h1, by simp [h2], h3⟩
          · rintro ⟨h1, h2, h3⟩
            rcases List.mem_cons.1 h2 with h2 | h2
            · exact absurd h2 hit
            · exact .inr (.inr ⟨h1, h2, h3⟩)
      · simp only [ES.send, hfn]
        exact hx.nodup_iff.2 (List.nodup_cons.2 ⟨hnew, hndA⟩)
      · simp only [ES.send]
        have := hx.length_eq
        simp at this hlen hlA hsent ⊢
        omega
    · rw [if_neg (by simp [upI_same]; omega)]
      refine ⟨t :: J, htree, hheard, hroot, fun i j => ?_, hndA, fun i => (h.wait_ok rfl).symm, ?_, hto, hby⟩
      · simp only
        rw [hmA]
        by_cases hit : i = t
        · subst hit
          rw [upI_same, upI_same]
          constructor
          · rintro (⟨_, h1, h2⟩ | ⟨_, h1, _⟩)
            · exact ⟨h1, by simp, .inl (by omega)⟩
            · exact absurd h1 hJ
          · rintro ⟨h1, _, h2⟩
            exact .inl ⟨rfl, h1, by omega⟩
        · rw [upI_ne hit, upI_ne hit]
          constructor
          · rintro (⟨h1, _⟩ | ⟨h1, h2, h3⟩)
            · exact absurd h1 hit
            · exact ⟨h1, by simp [h2], h3⟩
          · rintro ⟨h1, h2, h3⟩
            rcases List.mem_cons.1 h2 with h2 | h2
            · exact absurd h2 hit
            · exact .inr ⟨h1, h2, h3⟩
      · simp at hlen hlA hsent ⊢
        omega
theorem Inv.move (N : Net near adj) (h : Inv near adj start s J R) (k : Int) :
    ∃ J' R', Inv near adj start (s.move near k) J' R' ∧ ((s.move near k = s ∧ (k = 0 → s.way = [])) ∨ R'.length = R.length + 1) := by
  unfold ES.move
  by_cases hk : k < 0 ∨ (s.way.length : Int) ≤ k
  · rw [if_pos hk]
    exact ⟨J, R, h, .inl ⟨rfl, fun e => List.eq_nil_of_length_eq_zero (by omega)⟩⟩
  · rw [if_neg hk]
    have hkl : k.toNat < s.way.length := by omega
    obtain ⟨f, t⟩ : Nat × Nat := s.way[k.toNat]
    have he : s.way[k.toNat]? = some ((s.way.getD k.toNat (0, 0)).1, (s.way.getD k.toNat (0, 0)).2) := by simp [List.getD, hkl]
    obtain ⟨J', h'⟩ := h.take N he
    exact ⟨J', _, h', .inr rfl⟩
theorem Inv.moves (N : Net near adj) (h : Inv near adj start s J R) (l : List Int) : ∃ J' R', Inv near adj start (l.foldl (ES.move near) s) J' R' := by
  induction l generalizing s J R with
  | nil => exact ⟨J, R, h⟩
  | cons k l ih => obtain ⟨J', R', h', _⟩ := h.move N k; exact ih h'
theorem Inv.zeros (N : Net near adj) (h : Inv near adj start s J R) (m : Nat) : ∃ J' R', Inv near adj start ((List.replicate m (0 : Int)).foldl (ES.move near) s) J' R' ∧ (((List.replicate m (0 : Int)).foldl (ES.move near) s).way = [] ∨ R.length + m ≤ R'.length) := by
  induction m generalizing s J R with
  | zero => exact ⟨J, R, h, .inr (by simp)⟩
  | succ m ih =>
    obtain ⟨J', R', h', hc⟩ := h.move N 0
    obtain ⟨J2, R2, h2, hc2⟩ := ih h'
    refine ⟨J2, R2, by simpa [List.replicate_succ] using h2, ?_⟩
    rw [List.replicate_succ, List.foldl_cons]
    rcases hc with ⟨he, hw⟩ | hc
    · left
      rw [he]
      have hst : ∀ m : Nat, (List.replicate m (0 : Int)).foldl (ES.move near) s = s := by
        intro m
        induction m with
        | zero => rfl
        | succ m ih => rw [List.replicate_succ, List.foldl_cons, he, ih]
      rw [hst]; exact hw rfl
    · rcases hc2 with hc2 | hc2
      · exact .inl hc2
      · exact .inr (by omega)

/-- done: all waited for, all sent -/
theorem Inv.done (N : Net near adj) (h : Inv near adj start s J R) (hw : s.wait start = 0) : (∀ i ∈ J, s.wait i = 0) ∧ (∀ i j, i ∈ J → adj i j → j ∈ J ∧ (i, j) ∈ s.way ++ R) := by
  have h0 : ∀ i ∈ J, s.wait i = 0 := h.tree.down hw fun i hi p hp hs hf ha hp0 => by
    have h1 : i ∈ got R p := h.all_got N hp0 ((N.mem _ _).2 ha)
    have h2 := ((h.mem i p).1 (List.mem_append_right _ (mem_got.1 h1))).2.2
    omega
  refine ⟨h0, fun i j hi ha => ?_⟩
  have h1 : j ∈ got R i := h.all_got N (h0 i hi) ((N.mem _ _).2 ha)
  have h2 := ((h.mem j i).1 (List.mem_append_right _ (mem_got.1 h1))).2.1
  exact ⟨h2, (h.mem i j).2 ⟨ha, hi, .inr (h0 i hi)⟩⟩
/-- nothing on the way: done -/
theorem Inv.still (N : Net near adj) (h : Inv near adj start s J R) (hw : s.way = []) : s.wait start = 0 := by
  have hR : ∀ i j, (i, j) ∈ R ↔ adj i j ∧ i ∈ J ∧ ((j : Int) ≠ s.frm i ∨ s.wait i = 0) := fun i j => by
    have := h.mem i j; rw [hw] at this; simpa using this
  refine h.tree.up (fun p => by rw [h.root]; omega) (P := fun i => s.wait i = 0) (fun i hi hc => ?_) start h.tree.start_mem
  have hsub : near i ⊆ got R i := fun j hj => by
    have ha := (N.mem _ _).1 hj
    have hjJ : j ∈ J := by
      by_cases e : (j : Int) = s.frm i
      · by_cases hs : i = start
        · subst hs; rw [h.root] at e; omega
        · obtain ⟨p, hp, hp2, _⟩ := h.tree.parent hi hs
          have : j = p := by omega
          exact this ▸ hp
      · exact h.to i j ((hR i j).2 ⟨ha, hi, .inl e⟩)
    refine mem_got.2 ((hR j i).2 ⟨N.symm _ _ ha, hjJ, ?_⟩)
    by_cases e : s.frm j = (i : Nat)
    · exact .inr (hc j hjJ e)
    · exact .inl (Ne.symm e)
  have h1 := len_le (N.nodup i) hsub
  have h2 := len_le (got_nodup h.R_nodup i) (h.got_sub N i)
  have := h.wait i
  omega
end
end Go.Proofs.Ytaodgbeobdholaa.Ec
