/-
  The register is linearizable: what was done and what was begun and seen may be put in an order (no program is named).
-/
import Derived.Test.YtbibibpliahclaaInv
import Derived.Test.YtbibibpliahclaaLine
namespace Go.Proofs.Ytbibibpliahclaa.Cp.Pl

theorem Inv.stepped {n now : Nat} {s : St} {g : G} {H : List (Move × Int)} (h : Inv n s g H now) (m : Move) :
    ∃ g', Inv n (step s m now).1 g' (H ++ [(m, (step s m now).2)]) (now + 1) := by
  unfold step
  split
  · exact ⟨g, h.same (f := s.failed) m 6 (.inl (by omega))⟩
  rename_i h1
  split
  · exact ⟨g, h.same (f := s.failed) m 2 (.inl (by omega))⟩
  rename_i h2
  split
  · split
    · exact ⟨g, h.same (f := s.failed) m 7 (.inl (by omega))⟩
    · exact ⟨g, h.same (f := s.failed ||| 2 ^ m.to.toNat) m 0 (.inr (by omega))⟩
  rename_i h3
  have hf : 0 ≤ m.frm ∧ m.frm < 6 := by omega
  have hfi : m.frm.toNat < s.cl.length := by rw [h.six]; omega
  have hi : s.cl[m.frm.toNat]? = some (s.cl.getD m.frm.toNat default) := by simp [List.getD, hfi]
  dsimp only
  generalize s.cl.getD m.frm.toNat default = c at hi ⊢
  split
  · exact ⟨g, h.same (f := s.failed) m 7 (.inl (by omega))⟩
  rename_i h4
  split
  · rename_i h5
    have hp0 : c.part = 0 := by
      by_cases hp : c.part = 0
      · exact hp
      · have := (h.cl _ c hi hp).1
        exfalso
        apply h4
        rw [decide_eq_true h5]
        symm
        rw [decide_eq_true]
        omega
    exact ⟨g, h.begun m m.frm.toNat c hi hp0 h5 (by omega)⟩
  rename_i h5
  have hp : c.part ≠ 0 := by
    intro e
    apply h4
    rw [decide_eq_false h5, e]
    rfl
  split
  · exact ⟨g, h.same (f := s.failed) m 8 (.inl (by omega))⟩
  rename_i h6
  split
  · exact ⟨g, h.same (f := s.failed) m 5 (.inl (by omega))⟩
  have htn : m.to.toNat < n := by rw [← h.len]; omega
  have hm := h.met m.frm.toNat m.to.toNat c hi hp htn (by simpa using h6)
  have hm2 := hm.same (f := s.failed) m 0 (.inr h5)
  have hc2 : (metSt s m.frm.toNat m.to.toNat c).cl[m.frm.toNat]? = some (meet { c with reached := c.reached ||| 2 ^ m.to.toNat, many := c.many + 1 } (s.l.getD m.to.toNat default)).1 := client_self (s := s) hi
  have hk := meet_keeps { c with reached := c.reached ||| 2 ^ m.to.toNat, many := c.many + 1 } (s.l.getD m.to.toNat default)
  unfold reach
  dsimp only
  split
  · exact ⟨g, hm2⟩
  rename_i h7
  have hmany : (n : Int) < 2 * (c.many + 1) := by rw [← h.len]; omega
  split
  · rename_i h8
    have ht := hm2.turned m.frm.toNat _ hc2 (by rw [hk.1]; exact h8) (by rw [hk.2.2.2.2.2.1]; exact hmany)
    refine ⟨g, ?_⟩
    have e : putc { metSt s m.frm.toNat m.to.toNat c with failed := s.failed } m.frm.toNat (turn m.frm.toNat (meet { c with reached := c.reached ||| 2 ^ m.to.toNat, many := c.many + 1 } (s.l.getD m.to.toNat default)).1) =
        { putc s m.frm.toNat (turn m.frm.toNat (meet { c with reached := c.reached ||| 2 ^ m.to.toNat, many := c.many + 1 } (s.l.getD m.to.toNat default)).1) with l := s.l.set m.to.toNat (meet { c with reached := c.reached ||| 2 ^ m.to.toNat, many := c.many + 1 } (s.l.getD m.to.toNat default)).2 } := by
      simp [putc, metSt]
    rw [e] at ht
    exact ht
  · rename_i h8
    have hp2 : c.part = 2 := by have := (h.cl _ c hi hp).1; omega
    have he := hm2.ended m.frm.toNat _ hc2 (by rw [hk.1]; exact hp2) (by rw [hk.2.2.2.2.2.1]; exact hmany) (fun j c' hj hcp => (hm.cl j c' hj hcp).2.2.1) (fun p hp' => (hm.time p hp').2.2) s.failed
    refine ⟨_, Eq.mp (congrArg (fun S => Inv n S _ _ _) ?_) he⟩
    have k1 := hk.2.1
    have k2 := hk.2.2.1
    dsimp only at k1 k2
    simp [putc, metSt]
    exact ⟨k1, k2⟩

theorem Inv.ran {n : Nat} (L : List Move) : ∀ {now : Nat} {s : St} {g : G} {H : List (Move × Int)}, Inv n s g H now → ∃ g', Inv n (run s L now).1 g' (H ++ L.zip (run s L now).2) (now + L.length) := by
  induction L with
  | nil => intro now s g H h; exact ⟨g, by simpa [run] using h⟩
  | cons m L ih =>
    intro now s g H h
    obtain ⟨g1, h1⟩ := h.stepped m
    obtain ⟨g2, h2⟩ := ih h1
    refine ⟨g2, ?_⟩
    unfold run
    dsimp only
    rw [show (now : Int) + 1 = ((now + 1 : Nat) : Int) by omega, List.zip_cons_cons, List.length_cons]
    rw [List.append_assoc] at h2
    rw [show now + (L.length + 1) = now + 1 + L.length by omega]
    exact h2

theorem inv_init (n : Nat) : Inv n (init n) [] [] 0 := by
  have hcl : ∀ (i : Nat) (c : Cl), (init n).cl[i]? = some c → c.part = 0 := by
    intro i c h
    have := List.mem_of_getElem? h
    unfold init at this
    rw [List.eq_of_mem_replicate this]
  refine ⟨rfl, rfl, by simp [init], by simp [init], by simp, by simp, by simp, by simp, by simp, List.Pairwise.nil, by simp, by simp, by simp, ?_, ?_, ?_, ?_, by simp⟩
  · intro t ht
    have e : stampAt (init n) t = 0 := by simp [stampAt, init, List.getD, ht]
    have e2 : valAt (init n) t = 0 := by simp [valAt, init, List.getD, ht]
    rw [e, e2]
    exact ⟨Int.le_refl _, .inl ⟨rfl, rfl⟩⟩
  · intro i c h hp; exact absurd (hcl i c h) hp
  · intro i c h hp; have := hcl i c h; omega
  · intro i c h hp; have := hcl i c h; omega

theorem run_len (L : List Move) : ∀ (s : St) (t : Int), (run s L t).2.length = L.length := by
  induction L with
  | nil => intro s t; rfl
  | cons m L ih => intro s t; simp [run, ih]

theorem bound_of {α : Type} (f : α → Int) (l : List α) : ∃ B : Int, 0 < B ∧ ∀ x ∈ l, f x < B := by
  induction l with
  | nil => exact ⟨1, by omega, by simp⟩
  | cons a l ih =>
    obtain ⟨B, h0, h⟩ := ih
    refine ⟨max B (f a + 1), by omega, fun x hx => ?_⟩
    rcases List.mem_cons.1 hx with rfl | hx
    · omega
    · have := h x hx; omega

theorem mem_pends {ops : List Op} {cs : List Int} {len : Nat} {o : Op} (L : List Move) : ∀ {i : Nat}, o ∈ pends ops cs len i L ↔ ∃ (k : Nat) (m : Move), L[k]? = some m ∧ o ∈ pendOf ops cs len (i + k) m := by
  induction L with
  | nil => intro i; simp [pends]
  | cons a L ih =>
    intro i
    unfold pends
    rw [List.mem_append, ih]
    constructor
    · rintro (h | ⟨k, m, h1, h2⟩)
      · exact ⟨0, a, rfl, h⟩
      · exact ⟨k + 1, m, by simpa using h1, by rw [show i + (k + 1) = i + 1 + k by omega]; exact h2⟩
    · rintro ⟨k, m, h1, h2⟩
      cases k with
      | zero => simp at h1; subst h1; exact .inl h2
      | succ k => exact .inr ⟨k, m, by simpa using h1, by rw [show i + 1 + k = i + (k + 1) by omega]; exact h2⟩
theorem pendOf_beg {ops : List Op} {cs : List Int} {len i : Nat} {m : Move} {o : Op} (h : o ∈ pendOf ops cs len i m) : o.beg = i := by
  unfold pendOf at h
  split at h
  · rw [List.mem_singleton] at h; subst h; rfl
  · cases h
theorem pends_sorted (ops : List Op) (cs : List Int) (len : Nat) (L : List Move) : ∀ i : Nat, (pends ops cs len i L).Pairwise fun a b => a.beg < b.beg := by
  induction L with
  | nil => intro i; exact List.Pairwise.nil
  | cons m L ih =>
    intro i
    unfold pends
    rw [List.pairwise_append]
    refine ⟨?_, ih _, ?_⟩
    · unfold pendOf; split
      · exact List.pairwise_singleton _ _
      · exact List.Pairwise.nil
    · intro a ha b hb
      obtain ⟨k, m', _, hb⟩ := (mem_pends L).1 hb
      rw [pendOf_beg ha, pendOf_beg hb]
      omega

theorem Inv.apart {n now : Nat} {s : St} {g : G} {H : List (Move × Int)} (h : Inv n s g H now) {p q : Op × Int} (hp : p ∈ g) (hq : q ∈ g) (e : p.1.frm = q.1.frm) : p = q ∨ p.1.fin < q.1.beg ∨ q.1.fin < p.1.beg := by
  obtain ⟨i, hi, rfl⟩ := List.getElem_of_mem hp
  obtain ⟨j, hj, rfl⟩ := List.getElem_of_mem hq
  have hs := List.pairwise_iff_getElem.1 h.seq
  rcases Nat.lt_trichotomy i j with h1 | h1 | h1
  · exact .inr (.inl (hs i j hi hj h1 e))
  · subst h1; exact .inl rfl
  · exact .inr (.inr (hs j i hj hi h1 e.symm))

theorem Inv.unique {n now : Nat} {s : St} {g : G} {H : List (Move × Int)} (h : Inv n s g H now) {σ v v' : Int} (h1 : Wr s g σ v) (h2 : Wr s g σ v') : v = v' := by
  have key : ∀ v v', (∃ p ∈ g, p.1.wr = true ∧ p.2 = σ ∧ p.1.val = v) → (∃ (i : Nat) (c : Cl), s.cl[i]? = some c ∧ c.part = 2 ∧ c.wr = true ∧ c.bs = σ ∧ c.bv = v') → False := by
    rintro v v' ⟨p, hp, hw, hs, _⟩ ⟨i, c, hc, hpt, hcw, hcs, _⟩
    obtain ⟨t1, t2, t3, t4⟩ := h.two i c hc hpt
    obtain ⟨f1, f2, f3⟩ := t3 hcw
    obtain ⟨w1, w2⟩ := h.wmod p hp hw
    have e : p.1.frm.toNat = i := by rw [← w2, hs, ← hcs, f2]; exact Int.toNat_natCast i
    have := h.own p hp c (by rw [e]; exact hc) (by omega)
    have := (t1 p hp this).2 hcw
    omega
  rcases h1 with h1 | h1
  · rcases h2 with h2 | h2
    · obtain ⟨p, hp, hw, hs, hv⟩ := h1
      obtain ⟨q, hq, hw', hs', hv'⟩ := h2
      have e : p.1.frm = q.1.frm := by rw [← (h.wmod p hp hw).2, ← (h.wmod q hq hw').2, hs, hs']
      rcases h.apart hp hq e with rfl | h3 | h3
      · rw [← hv, ← hv']
      · have := (h.rt p hp q hq h3).2 hw'; omega
      · have := (h.rt q hq p hp h3).2 hw; omega
    · exact (key _ _ h1 h2).elim
  · rcases h2 with h2 | h2
    · exact (key _ _ h2 h1).elim
    · obtain ⟨i, c, hc, hpt, hcw, hcs, hv⟩ := h1
      obtain ⟨j, c', hc', hpt', hcw', hcs', hv'⟩ := h2
      have e1 := ((h.two i c hc hpt).2.2.1 hcw).2.1
      have e2 := ((h.two j c' hc' hpt').2.2.1 hcw').2.1
      have : i = j := by rw [hcs] at e1; rw [hcs'] at e2; omega
      subst this
      rw [hc] at hc'
      cases hc'
      omega

/-- what is known of an operation that was begun and seen -/
structure PO (s : St) (len : Nat) (o : Op) (c : Cl) : Prop where
  at' : s.cl[o.frm.toNat]? = some c
  part : c.part ≠ 0
  beg : c.beg = o.beg
  cw : c.wr = true
  cv : c.val = o.val
  fin : o.fin = len + 1
  wr : o.wr = true
  frm : 0 ≤ o.frm ∧ o.frm < 6
  b0 : 0 ≤ o.beg ∧ o.beg < len

theorem zip_get {L : List Move} {cs : List Int} {k : Nat} {m : Move} (hl : cs.length = L.length) (h : L[k]? = some m) : (L.zip cs)[k]? = some (m, cs.getD k 0) := by
  have hk := (List.getElem?_eq_some_iff.1 h).1
  rw [List.getElem?_zip_eq_some]
  exact ⟨h, by simp [List.getD, show k < cs.length by omega]⟩

theorem Inv.pend {n : Nat} {s : St} {g : G} {L : List Move} {cs : List Int} (hl : cs.length = L.length) (h : Inv n s g (L.zip cs) L.length) {o : Op} (ho : o ∈ pends s.ops cs L.length 0 L) : ∃ c, PO s L.length o c := by
  obtain ⟨k, m, hk, ho⟩ := (mem_pends L).1 ho
  rw [Nat.zero_add] at ho
  unfold pendOf at ho
  split at ho
  · rename_i hc
    obtain ⟨c1, c2, c3, c4, c5⟩ := hc
    rw [List.mem_singleton] at ho
    have hz := zip_get hl hk
    rw [c2] at hz
    have hkl := (List.getElem?_eq_some_iff.1 hk).1
    obtain ⟨f1, f2, f3⟩ := h.beg k m hz c1
    rcases f3 with ⟨p, hp, e1, e2⟩ | ⟨c, hc, hcp, hb⟩
    · exfalso
      have : doneIn s.ops m.frm k = true := by
        unfold doneIn
        rw [List.any_eq_true]
        refine ⟨p.1, ?_, by simp [e1, e2]⟩
        rw [← h.gm]
        exact List.mem_map_of_mem hp
      rw [this] at c4
      cases c4
    · obtain ⟨g1, g2, g3, g4, g5, m', g6, g7, g8, g9, g10⟩ := h.cl _ c hc hcp
      rw [hb, Int.toNat_natCast, hz] at g6
      cases g6
      subst ho
      exact ⟨c, hc, hcp, hb, by rw [g9]; simpa using c3, by dsimp only; omega, rfl, rfl, ⟨f1, f2⟩, by dsimp only; omega⟩
  · cases ho

theorem plain {n : Nat} {L : List Move} (h1 : 1 ≤ n) (hl : L.length ≤ 60) (h8 : (allOps n L).length ≤ 8) : WfOps (allOps n L) ∧ Can (allOps n L) 0 (-1) := by
  obtain ⟨g, hI⟩ := (inv_init n).ran L
  have hcl := run_len L (init n) 0
  unfold allOps at h8 ⊢
  rw [show ((0 : Nat) : Int) = 0 from rfl] at hI
  generalize run (init n) L 0 = R at *
  obtain ⟨s, cs⟩ := R
  dsimp only at *
  rw [List.nil_append, Nat.zero_add] at hI
  have hP := fun o (ho : o ∈ pends s.ops cs L.length 0 L) => hI.pend hcl ho
  obtain ⟨B1, hB0, hB1⟩ := bound_of (fun p : Op × Int => p.2) g
  have hgm := hI.gm
  refine ⟨⟨h8, ?_, ?_⟩, ?_⟩
  · intro a ha
    rcases List.mem_append.1 ha with ha | ha
    · rw [← hgm] at ha
      obtain ⟨p, hp, rfl⟩ := List.mem_map.1 ha
      exact (hI.time p hp).2.1
    · obtain ⟨c, hc⟩ := hP a ha
      have := hc.b0; have := hc.fin
      omega
  · have hpw : (s.ops ++ pends s.ops cs L.length 0 L).Pairwise fun b a => a.frm = b.frm → ¬ a.beg < b.fin := by
      rw [List.pairwise_append]
      refine ⟨?_, ?_, ?_⟩
      · rw [← hgm, List.pairwise_map]
        refine hI.seq.imp ?_
        intro p q h e
        have := h e.symm
        omega
      · refine List.Pairwise.imp_of_mem ?_ (pends_sorted s.ops cs L.length L 0)
        intro b a hb ha hlt e
        obtain ⟨c, hc⟩ := hP a ha
        obtain ⟨c', hc'⟩ := hP b hb
        have e1 := hc.at'
        have e2 := hc'.at'
        rw [e, e2] at e1
        cases e1
        have := hc.beg; have := hc'.beg
        omega
      · intro b hb a ha e
        rw [← hgm] at hb
        obtain ⟨p, hp, rfl⟩ := List.mem_map.1 hb
        obtain ⟨c, hc⟩ := hP a ha
        have := hI.own p hp c (by rw [← e]; exact hc.at') hc.part
        have := hc.beg
        omega
    intro i j a b hji ha hb e _
    obtain ⟨hi, rfl⟩ := List.getElem?_eq_some_iff.1 ha
    obtain ⟨hj, rfl⟩ := List.getElem?_eq_some_iff.1 hb
    exact List.pairwise_iff_getElem.1 hpw j i hj hi hji e
  · let pst : Op → Int := fun o => match s.cl[o.frm.toNat]? with
      | some c => if c.part = 2 then c.bs else B1
      | none => B1
    have hG : s.ops ++ pends s.ops cs L.length 0 L = (g ++ (pends s.ops cs L.length 0 L).map fun o => (o, pst o)).map (·.1) := by
      rw [List.map_append, hgm, List.map_map]
      congr 1
      exact (List.map_id'' (fun _ => rfl) _).symm
    rw [hG]
    have hpst : ∀ (o : Op) (c : Cl), PO s L.length o c → (c.part = 2 ∧ pst o = c.bs) ∨ (c.part = 1 ∧ pst o = B1) := by
      intro o c hc
      have hp := (hI.cl _ c hc.at' hc.part).1
      have e : pst o = if c.part = 2 then c.bs else B1 := by
        show (match s.cl[o.frm.toNat]? with | some c => if c.part = 2 then c.bs else B1 | none => B1) = _
        rw [hc.at']
      rcases hp with hp | hp
      · right; exact ⟨hp, by rw [e, if_neg (by omega)]⟩
      · left; exact ⟨hp, by rw [e, if_pos hp]⟩
    generalize pst = pst at hpst ⊢
    have hmem : ∀ p ∈ g ++ (pends s.ops cs L.length 0 L).map (fun o => (o, pst o)), p ∈ g ∨ (∃ c, PO s L.length p.1 c ∧ ((c.part = 2 ∧ p.2 = c.bs) ∨ (c.part = 1 ∧ p.2 = B1))) := by
      intro p hp
      rcases List.mem_append.1 hp with hp | hp
      · exact .inl hp
      · obtain ⟨o, ho, rfl⟩ := List.mem_map.1 hp
        obtain ⟨c, hc⟩ := hP o ho
        exact .inr ⟨c, hc, hpst o c hc⟩
    have hbnd : ∀ p ∈ g ++ (pends s.ops cs L.length 0 L).map (fun o => (o, pst o)), 0 ≤ p.1.beg ∧ p.1.beg < L.length := by
      intro p hp
      rcases hmem p hp with hp | ⟨c, hc, _⟩
      · have := hI.time p hp; omega
      · exact hc.b0
    have hpos : ∀ p ∈ g ++ (pends s.ops cs L.length 0 L).map (fun o => (o, pst o)), p.1.wr = true → 0 < p.2 := by
      intro p hp hw
      rcases hmem p hp with hp | ⟨c, hc, h | h⟩
      · exact (hI.wmod p hp hw).1
      · have := ((hI.two _ c hc.at' h.1).2.2.1 hc.cw).1; omega
      · omega
    refine can_of _ (fun p => (2 * p.2 + if p.1.wr = true then 0 else 1) * 100 + p.1.beg) ?_ ?_
    · intro p hp q hq hbh
      have b1 := hbnd p hp
      have b2 := hbnd q hq
      have hlt : p.1.fin < q.1.beg := by
        unfold behindB endedB sameB at hbh
        simp only [Bool.or_eq_true, Bool.and_eq_true, decide_eq_true_eq] at hbh
        rcases hbh with h | ⟨e, h⟩
        · exact h
        · rcases hmem p hp with hp | ⟨c, hc, _⟩
          · rcases hmem q hq with hq | ⟨c', hc', _⟩
            · have := hI.time q hq
              rcases hI.apart hp hq e with rfl | h3 | h3 <;> omega
            · have := hI.own p hp c' (by rw [e]; exact hc'.at') hc'.part
              have := hc'.beg
              omega
          · rcases hmem q hq with hq | ⟨c', hc', _⟩
            · have := hI.own q hq c (by rw [← e]; exact hc.at') hc.part
              have := hI.time q hq
              have := hc.beg
              omega
            · have e1 := hc.at'
              have e2 := hc'.at'
              rw [e, e2] at e1
              cases e1
              have := hc.beg; have := hc'.beg
              omega
      have hle : p.2 ≤ q.2 ∧ (q.1.wr = true → p.2 < q.2) := by
        rcases hmem p hp with hp | ⟨c, hc, _⟩
        · rcases hmem q hq with hq | ⟨c', hc', h | h⟩
          · exact hI.rt p hp q hq hlt
          · have := (hI.two _ c' hc'.at' h.1).1 p hp (by rw [hc'.beg]; exact hlt)
            have := this.2 hc'.cw
            exact ⟨by omega, fun _ => by omega⟩
          · have := hB1 p hp
            try try dsimp only at this
            exact ⟨by omega, fun _ => by omega⟩
        · have := hc.fin
          omega
      have hpf : p.1.beg < q.1.beg := by
        rcases hmem p hp with hp | ⟨c, hc, _⟩
        · have := hI.time p hp; omega
        · have := hc.fin; omega
      try dsimp only
      cases hw : q.1.wr with
      | true =>
        have := hle.2 hw
        cases p.1.wr <;> simp <;> omega
      | false => cases p.1.wr <;> simp <;> omega
    · intro p hp hw
      have b1 := hbnd p hp
      have hpg : p ∈ g := by
        rcases hmem p hp with hp | ⟨c, hc, _⟩
        · exact hp
        · rw [hc.wr] at hw; cases hw
      rcases hI.rd p hpg hw with ⟨h0, hv⟩ | hwr
      · left
        refine ⟨hv, fun q hq hqw => ?_⟩
        have := hpos q hq hqw
        have b2 := hbnd q hq
        try dsimp only
        rw [hqw, hw, h0]
        simp
        omega
      · right
        have hex : ∃ q0 ∈ g ++ (pends s.ops cs L.length 0 L).map (fun o => (o, pst o)), q0.1.wr = true ∧ q0.2 = p.2 := by
          rcases hwr with ⟨q, hq, hqw, hqs, _⟩ | ⟨i, c, hc, hpt, hcw, hcs, hcv⟩
          · exact ⟨q, List.mem_append_left _ hq, hqw, hqs⟩
          · obtain ⟨g1, g2, g3, g4, g5, m, g6, g7, g8, g9, g10⟩ := hI.cl i c hc (by omega)
            obtain ⟨t1, t2, t3, t4⟩ := hI.two i c hc hpt
            obtain ⟨u1, u2, u3⟩ := t3 hcw
            have hmv : 0 ≤ m.val := by rw [hcw] at g9; simpa using g9.symm
            have hmm : c.val = m.val := by omega
            obtain ⟨hz1, hz2⟩ := List.getElem?_zip_eq_some.1 g6
            have ho : (⟨m.frm, c.beg.toNat, L.length + 1, true, m.val⟩ : Op) ∈ pends s.ops cs L.length 0 L := by
              refine (mem_pends L).2 ⟨c.beg.toNat, m, hz1, ?_⟩
              rw [Nat.zero_add]
              unfold pendOf
              rw [if_pos]
              · exact List.mem_singleton.2 rfl
              · refine ⟨g7, by simp only [List.getD, hz2, Option.getD_some], hmv, ?_, ?_⟩
                · unfold doneIn
                  rw [List.any_eq_false]
                  intro o ho hco
                  simp only [Bool.and_eq_true, decide_eq_true_eq] at hco
                  rw [← hgm] at ho
                  obtain ⟨p', hp', rfl⟩ := List.mem_map.1 ho
                  have := hI.own p' hp' c (by rw [hco.1, g8, Int.toNat_natCast]; exact hc) (by omega)
                  have := hI.time p' hp'
                  omega
                · unfold seenIn
                  rw [List.any_eq_true]
                  refine ⟨p.1, by rw [← hgm]; exact List.mem_map_of_mem hpg, ?_⟩
                  rw [hw]
                  simp
                  omega
            refine ⟨_, List.mem_append_right _ (List.mem_map_of_mem ho), rfl, ?_⟩
            obtain ⟨c', hc'⟩ := hP _ ho
            have e := hc'.at'
            dsimp only at e
            rw [g8, Int.toNat_natCast, hc] at e
            cases e
            rcases hpst _ c hc' with h | h
            · rw [h.2, hcs]
            · omega
        obtain ⟨q0, hq0, hq0w, hq0s⟩ := hex
        have b0 := hbnd q0 hq0
        refine ⟨q0, hq0, hq0w, ?_, fun q hq hqw ha hb => ?_⟩
        · try dsimp only
          rw [hq0w, hw, hq0s]
          simp
          omega
        · have b2 := hbnd q hq
          try dsimp only at ha hb
          rw [hq0w, hqw, hq0s] at ha
          rw [hqw, hw] at hb
          simp at ha hb
          have hs : q.2 = p.2 := by omega
          have hqWr : Wr s g p.2 q.1.val := by
            rcases hmem q hq with hq | ⟨c, hc, h | h⟩
            · exact .inl ⟨q, hq, hqw, hs, rfl⟩
            · exact .inr ⟨_, c, hc.at', h.1, hc.cw, by omega, by rw [((hI.two _ c hc.at' h.1).2.2.1 hc.cw).2.2]; exact hc.cv⟩
            · have := hB1 p hpg
              try try dsimp only at this
              omega
          exact hI.unique hqWr hwr
end Go.Proofs.Ytbibibpliahclaa.Cp.Pl
