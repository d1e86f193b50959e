/-
  What holds of the copies and their clients at every time (no program is named).
-/
import Derived.Test.YtbibibpliahclaaCan
import Derived.Test.YtbibibpliahclaaAllOps
namespace Go.Proofs.Ytbibibpliahclaa.Cp.Pl

def cnt (p : Nat → Bool) : Nat → Nat
  | 0 => 0
  | n + 1 => cnt p n + if p n then 1 else 0
theorem cnt_mono {p q : Nat → Bool} (n : Nat) (h : ∀ t, t < n → p t = true → q t = true) : cnt p n ≤ cnt q n := by
  induction n with
  | zero => exact Nat.le_refl _
  | succ n ih =>
    have := ih fun t ht => h t (by omega)
    have h2 := h n (by omega)
    unfold cnt
    cases hp : p n with
    | false => simp; omega
    | true => rw [h2 hp]; simp; omega
theorem cnt_both (p q : Nat → Bool) (n : Nat) (h : ∀ t, t < n → p t = true → q t = false) : cnt p n + cnt q n ≤ n := by
  induction n with
  | zero => simp [cnt]
  | succ n ih =>
    have := ih fun t ht => h t (by omega)
    have h2 := h n (by omega)
    unfold cnt
    cases hp : p n with
    | false => cases q n <;> simp <;> omega
    | true => rw [h2 hp]; simp; omega
theorem cnt_meet {p q : Nat → Bool} {n : Nat} (hp : n < 2 * cnt p n) (hq : n < 2 * cnt q n) : ∃ t, t < n ∧ p t = true ∧ q t = true := by
  by_cases h : ∃ t, t < n ∧ p t = true ∧ q t = true
  · exact h
  · have := cnt_both p q n fun t ht hpt => by
      cases hqt : q t with
      | false => rfl
      | true => exact absurd ⟨t, ht, hpt, hqt⟩ h
    omega
theorem cnt_congr {p q : Nat → Bool} (n : Nat) (h : ∀ t, t < n → p t = q t) : cnt p n = cnt q n :=
  Nat.le_antisymm (cnt_mono n fun t ht hp => by rw [← h t ht]; exact hp) (cnt_mono n fun t ht hp => by rw [h t ht]; exact hp)
theorem cnt_or (x t n : Nat) (ht : t < n) (hb : bit x t = false) : cnt (bit (x ||| 2 ^ t)) n = cnt (bit x) n + 1 := by
  induction n with
  | zero => omega
  | succ n ih =>
    unfold cnt
    by_cases h : t = n
    · subst h
      rw [cnt_congr (q := bit x) t fun u hu => bit_or_ne x t u (by omega), bit_or_self, hb]
      simp
    · rw [ih (by omega), bit_or_ne x t n (by omega)]
      omega
theorem cnt_zero (n : Nat) : cnt (bit 0) n = 0 := by
  induction n with
  | zero => rfl
  | succ n ih => unfold cnt; rw [ih, bit_test]; simp
theorem bit_zero_false (t : Nat) : bit 0 t = false := by rw [bit_test]; simp

abbrev G := List (Op × Int)
def stampAt (s : St) (t : Nat) : Int := (s.l.getD t default).stamp
def valAt (s : St) (t : Nat) : Int := (s.l.getD t default).val
/-- a write that has its stamp -/
def Wr (s : St) (g : G) (σ v : Int) : Prop :=
  (∃ p ∈ g, p.1.wr = true ∧ p.2 = σ ∧ p.1.val = v) ∨ (∃ (i : Nat) (c : Cl), s.cl[i]? = some c ∧ c.part = 2 ∧ c.wr = true ∧ c.bs = σ ∧ c.bv = v)
def Src (s : St) (g : G) (σ v : Int) : Prop := (σ = 0 ∧ v = 0) ∨ Wr s g σ v

structure Inv (n : Nat) (s : St) (g : G) (H : List (Move × Int)) (now : Nat) : Prop where
  hl : H.length = now
  gm : g.map (·.1) = s.ops
  len : s.l.length = n
  six : s.cl.length = 6
  maj : ∀ p ∈ g, n < 2 * cnt (fun t => decide (p.2 ≤ stampAt s t)) n
  rt : ∀ p ∈ g, ∀ q ∈ g, p.1.fin < q.1.beg → p.2 ≤ q.2 ∧ (q.1.wr = true → p.2 < q.2)
  time : ∀ p ∈ g, 0 ≤ p.1.beg ∧ p.1.beg < p.1.fin ∧ p.1.fin < now
  frm : ∀ p ∈ g, 0 ≤ p.1.frm ∧ p.1.frm < 6
  own : ∀ p ∈ g, ∀ c : Cl, s.cl[p.1.frm.toNat]? = some c → c.part ≠ 0 → p.1.fin < c.beg
  seq : g.Pairwise fun p q => p.1.frm = q.1.frm → p.1.fin < q.1.beg
  wmod : ∀ p ∈ g, p.1.wr = true → 0 < p.2 ∧ p.2 % 6 = p.1.frm
  nn : ∀ p ∈ g, 0 ≤ p.2
  rd : ∀ p ∈ g, p.1.wr = false → Src s g p.2 p.1.val
  cp : ∀ t, t < n → 0 ≤ stampAt s t ∧ Src s g (stampAt s t) (valAt s t)
  cl : ∀ (i : Nat) (c : Cl), s.cl[i]? = some c → c.part ≠ 0 → (c.part = 1 ∨ c.part = 2) ∧ 0 ≤ c.beg ∧ c.beg < now ∧ c.many = cnt (bit c.reached) n ∧ 0 ≤ c.bs ∧
    ∃ m : Move, H[c.beg.toNat]? = some (m, 0) ∧ m.kind = 1 ∧ m.frm = i ∧ c.wr = decide (0 ≤ m.val) ∧ c.val = max m.val 0
  one : ∀ (i : Nat) (c : Cl), s.cl[i]? = some c → c.part = 1 → Src s g c.bs c.bv ∧ ∀ p ∈ g, p.1.fin < c.beg →
    ∃ Q : Nat → Bool, n < 2 * cnt Q n ∧ (∀ t, t < n → Q t = true → p.2 ≤ stampAt s t) ∧ (p.2 ≤ c.bs ∨ ∀ t, t < n → Q t = true → bit c.reached t = false)
  two : ∀ (i : Nat) (c : Cl), s.cl[i]? = some c → c.part = 2 → (∀ p ∈ g, p.1.fin < c.beg → p.2 ≤ c.bs ∧ (c.wr = true → p.2 < c.bs)) ∧ (∀ t, t < n → bit c.reached t = true → c.bs ≤ stampAt s t) ∧
    (c.wr = true → 0 < c.bs ∧ c.bs % 6 = i ∧ c.bv = c.val) ∧ (c.wr = false → Src s g c.bs c.bv)
  beg : ∀ (k : Nat) (m : Move), H[k]? = some (m, 0) → m.kind = 1 → 0 ≤ m.frm ∧ m.frm < 6 ∧ ((∃ p ∈ g, p.1.frm = m.frm ∧ p.1.beg = k) ∨ ∃ c : Cl, s.cl[m.frm.toNat]? = some c ∧ c.part ≠ 0 ∧ c.beg = k)

theorem get_snoc {α : Type} {l : List α} {a b : α} {k : Nat} (h : l[k]? = some a) : (l ++ [b])[k]? = some a := by
  rw [List.getElem?_append_left (List.getElem?_eq_some_iff.1 h).1]; exact h
theorem get_snoc_inv {α : Type} {l : List α} {a b : α} {k : Nat} (h : (l ++ [b])[k]? = some a) : l[k]? = some a ∨ (k = l.length ∧ a = b) := by
  rcases Nat.lt_trichotomy k l.length with h1 | h1 | h1
  · rw [List.getElem?_append_left h1] at h; exact .inl h
  · subst h1; simp at h; exact .inr ⟨rfl, h.symm⟩
  · rw [List.getElem?_eq_none (by simp; omega)] at h; cases h

/-- a move that begins nothing and changes nothing but what has failed -/
theorem Inv.same {n now f : Nat} {s : St} {g : G} {H : List (Move × Int)} (h : Inv n s g H now) (m : Move) (code : Int) (hc : code ≠ 0 ∨ m.kind ≠ 1) :
    Inv n { s with failed := f } g (H ++ [(m, code)]) (now + 1) where
  hl := by simp [h.hl]
  gm := h.gm
  len := h.len
  six := h.six
  maj := h.maj
  rt := h.rt
  time := fun p hp => by have := h.time p hp; omega
  frm := h.frm
  own := h.own
  seq := h.seq
  wmod := h.wmod
  nn := h.nn
  rd := h.rd
  cp := h.cp
  cl := fun i c hi hp => by
    obtain ⟨h1, h2, h3, h4, h5, m', h6, h7⟩ := h.cl i c hi hp
    exact ⟨h1, h2, by omega, h4, h5, m', get_snoc h6, h7⟩
  one := h.one
  two := h.two
  beg := fun k m' hk hm => by
    rcases get_snoc_inv hk with hk | ⟨_, he⟩
    · exact h.beg k m' hk hm
    · simp at he
      obtain ⟨rfl, rfl⟩ := he
      rcases hc with hc | hc
      · exact absurd rfl hc
      · exact absurd hm hc

theorem client_put {s : St} {i j : Nat} {c' c : Cl} (h : (putc s i c').cl[j]? = some c) : (j = i ∧ c = c') ∨ (j ≠ i ∧ s.cl[j]? = some c) := by
  unfold putc at h
  simp only [List.getElem?_set] at h
  by_cases e : i = j
  · rw [if_pos e] at h
    split at h
    · left; exact ⟨e.symm, by simpa using h.symm⟩
    · cases h
  · rw [if_neg e] at h
    exact .inr ⟨fun e2 => e e2.symm, h⟩
theorem client_self {s : St} {i : Nat} {c c' : Cl} (h : s.cl[i]? = some c) : (putc s i c').cl[i]? = some c' := by
  have := (List.getElem?_eq_some_iff.1 h).1
  unfold putc
  simp [this]
theorem client_other {s : St} {i j : Nat} {c' : Cl} (h : j ≠ i) : (putc s i c').cl[j]? = s.cl[j]? := by
  unfold putc
  simp [List.getElem?_set, Ne.symm h]

/-- a client that had begun nothing begins -/
theorem Inv.begun {n now : Nat} {s : St} {g : G} {H : List (Move × Int)} (h : Inv n s g H now) (m : Move) (i : Nat) (c0 : Cl) (hi : s.cl[i]? = some c0) (hp0 : c0.part = 0) (hk : m.kind = 1) (hf : m.frm = i) :
    Inv n (putc s i (fresh m now)) g (H ++ [(m, 0)]) (now + 1) := by
  have hi6 : i < 6 := by rw [← h.six]; exact (List.getElem?_eq_some_iff.1 hi).1
  have hW : ∀ σ v, Wr s g σ v → Wr (putc s i (fresh m now)) g σ v := by
    rintro σ v (hw | ⟨j, c, hj, hp, hr⟩)
    · exact .inl hw
    · refine .inr ⟨j, c, ?_, hp, hr⟩
      rw [client_other]
      · exact hj
      · rintro rfl
        rw [hi] at hj
        cases hj
        omega
  have hS : ∀ σ v, Src s g σ v → Src (putc s i (fresh m now)) g σ v := fun σ v hs => hs.imp_right (hW σ v)
  refine ⟨by simp [h.hl], h.gm, h.len, by simpa [putc] using h.six, h.maj, h.rt, fun p hp => by have := h.time p hp; omega, h.frm, ?_, h.seq, h.wmod, h.nn, fun p hp hw => hS _ _ (h.rd p hp hw), fun t ht => ⟨(h.cp t ht).1, hS _ _ (h.cp t ht).2⟩, ?_, ?_, ?_, ?_⟩
  · intro p hp c hc hcp
    rcases client_put hc with ⟨_, rfl⟩ | ⟨_, hc⟩
    · exact (h.time p hp).2.2
    · exact h.own p hp c hc hcp
  · intro j c hc hcp
    rcases client_put hc with ⟨rfl, rfl⟩ | ⟨_, hc⟩
    · refine ⟨.inl rfl, by simp [fresh], by simp [fresh]; omega, by simp [fresh, cnt_zero], by simp [fresh], m, ?_, hk, hf, rfl, rfl⟩
      simp [fresh, ← h.hl]
    · obtain ⟨h1, h2, h3, h4, h5, m', h6, h7⟩ := h.cl j c hc hcp
      exact ⟨h1, h2, by omega, h4, h5, m', get_snoc h6, h7⟩
  · intro j c hc hcp
    rcases client_put hc with ⟨rfl, rfl⟩ | ⟨_, hc⟩
    · refine ⟨.inl ⟨rfl, rfl⟩, fun p hp _ => ⟨fun t => decide (p.2 ≤ stampAt s t), h.maj p hp, fun t _ hq => of_decide_eq_true hq, .inr fun t _ _ => bit_zero_false t⟩⟩
    · obtain ⟨h1, h2⟩ := h.one j c hc hcp
      exact ⟨hS _ _ h1, h2⟩
  · intro j c hc hcp
    rcases client_put hc with ⟨rfl, rfl⟩ | ⟨_, hc⟩
    · cases hcp
    · obtain ⟨h1, h2, h3, h4⟩ := h.two j c hc hcp
      exact ⟨h1, h2, h3, fun hw => hS _ _ (h4 hw)⟩
  · intro k m' hk' hm
    rcases get_snoc_inv hk' with hk' | ⟨rfl, he⟩
    · obtain ⟨h1, h2, h3⟩ := h.beg k m' hk' hm
      refine ⟨h1, h2, h3.imp_right ?_⟩
      rintro ⟨c, hc, hcp, hb⟩
      refine ⟨c, ?_, hcp, hb⟩
      rw [client_other]
      · exact hc
      · intro e
        rw [e, hi] at hc
        cases hc
        exact hcp hp0
    · simp at he
      subst he
      refine ⟨by omega, by omega, .inr ⟨fresh m' now, ?_, by simp [fresh], by simp [fresh, h.hl]⟩⟩
      rw [hf, Int.toNat_natCast]
      exact client_self hi

theorem stampAt_set {s : St} {t u : Nat} {k : Kept} (ht : t < s.l.length) (q : St) (hq : q.l = s.l.set t k) : stampAt q u = if u = t then k.stamp else stampAt s u := by
  unfold stampAt
  rw [hq]
  by_cases e : u = t
  · subst e; simp [List.getD, ht]
  · rw [if_neg e]; simp [List.getD, List.getElem?_set, Ne.symm e]
theorem valAt_set {s : St} {t u : Nat} {k : Kept} (ht : t < s.l.length) (q : St) (hq : q.l = s.l.set t k) : valAt q u = if u = t then k.val else valAt s u := by
  unfold valAt
  rw [hq]
  by_cases e : u = t
  · subst e; simp [List.getD, ht]
  · rw [if_neg e]; simp [List.getD, List.getElem?_set, Ne.symm e]

/-- the state behind the meeting of a client and a copy, ahead of the question whether its part is ended -/
def metSt (s : St) (i t : Nat) (c : Cl) : St :=
  { putc s i (meet { c with reached := c.reached ||| 2 ^ t, many := c.many + 1 } (s.l.getD t default)).1 with l := s.l.set t (meet { c with reached := c.reached ||| 2 ^ t, many := c.many + 1 } (s.l.getD t default)).2 }

theorem meet_keeps (c : Cl) (k : Kept) : (meet c k).1.part = c.part ∧ (meet c k).1.beg = c.beg ∧ (meet c k).1.wr = c.wr ∧ (meet c k).1.val = c.val ∧ (meet c k).1.reached = c.reached ∧ (meet c k).1.many = c.many ∧
    c.bs ≤ (meet c k).1.bs ∧ (c.part = 2 → (meet c k).1.bs = c.bs ∧ (meet c k).1.bv = c.bv ∧ c.bs ≤ (meet c k).2.stamp) ∧ k.stamp ≤ (meet c k).2.stamp ∧
    (c.part = 1 → (meet c k).2 = k ∧ k.stamp ≤ (meet c k).1.bs) ∧
    (((meet c k).2 = k) ∨ (c.part = 2 ∧ (meet c k).2 = ⟨c.bs, c.bv⟩)) ∧
    (((meet c k).1.bs = c.bs ∧ (meet c k).1.bv = c.bv) ∨ (c.part = 1 ∧ (meet c k).1.bs = k.stamp ∧ (meet c k).1.bv = k.val)) := by
  unfold meet
  split
  · rename_i h
    refine ⟨rfl, rfl, rfl, rfl, rfl, rfl, ?_, ?_, Int.le_refl _, fun _ => ⟨rfl, Int.le_refl _⟩, .inl rfl, .inr ⟨h.1, rfl, rfl⟩⟩
    · show c.bs ≤ k.stamp
      omega
    · intro h2; omega
  · rename_i h1
    split
    · rename_i h
      refine ⟨rfl, rfl, rfl, rfl, rfl, rfl, Int.le_refl _, fun _ => ⟨rfl, rfl, Int.le_refl _⟩, ?_, fun h2 => by omega, .inr ⟨h.1, rfl⟩, .inl ⟨rfl, rfl⟩⟩
      show k.stamp ≤ c.bs
      omega
    · rename_i h
      refine ⟨rfl, rfl, rfl, rfl, rfl, rfl, Int.le_refl _, fun h2 => ⟨rfl, rfl, ?_⟩, Int.le_refl _, fun h2 => ⟨rfl, ?_⟩, .inl rfl, .inl ⟨rfl, rfl⟩⟩
      · show c.bs ≤ k.stamp
        omega
      · show k.stamp ≤ c.bs
        omega

theorem Inv.met {n now : Nat} {s : St} {g : G} {H : List (Move × Int)} (h : Inv n s g H now) (i t : Nat) (c : Cl) (hi : s.cl[i]? = some c) (hp : c.part ≠ 0) (ht : t < n) (hb : bit c.reached t = false) :
    Inv n (metSt s i t c) g H now := by
  have htl : t < s.l.length := by rw [h.len]; exact ht
  have hkeep := meet_keeps { c with reached := c.reached ||| 2 ^ t, many := c.many + 1 } (s.l.getD t default)
  have hst := fun u => stampAt_set (u := u) (k := (meet { c with reached := c.reached ||| 2 ^ t, many := c.many + 1 } (s.l.getD t default)).2) htl (metSt s i t c) rfl
  have hva := fun u => valAt_set (u := u) (k := (meet { c with reached := c.reached ||| 2 ^ t, many := c.many + 1 } (s.l.getD t default)).2) htl (metSt s i t c) rfl
  have hcl : (metSt s i t c).cl = (putc s i (meet { c with reached := c.reached ||| 2 ^ t, many := c.many + 1 } (s.l.getD t default)).1).cl := rfl
  have hk0 : (s.l.getD t default).stamp = stampAt s t := rfl
  have hk1 : (s.l.getD t default).val = valAt s t := rfl
  generalize hc2 : (meet { c with reached := c.reached ||| 2 ^ t, many := c.many + 1 } (s.l.getD t default)).1 = c2 at hkeep hcl
  generalize hk2 : (meet { c with reached := c.reached ||| 2 ^ t, many := c.many + 1 } (s.l.getD t default)).2 = k2 at hkeep hst hva
  generalize s.l.getD t default = k at hkeep hk0 hk1 hc2 hk2
  have hsz : (metSt s i t c).l.length = n := by simp [metSt, h.len]
  have hops : (metSt s i t c).ops = s.ops := rfl
  have hlen6 : (metSt s i t c).cl.length = 6 := by rw [hcl]; simpa [putc] using h.six
  generalize metSt s i t c = q at *
  dsimp only at hkeep
  obtain ⟨e1, e2, e3, e4, e5, e6, e7, e8, e9, e10, e11, e12⟩ := hkeep
  have hgetq : ∀ (j : Nat) (c' : Cl), q.cl[j]? = some c' → (j = i ∧ c' = c2) ∨ (j ≠ i ∧ s.cl[j]? = some c') := fun j c' hj => by rw [hcl] at hj; exact client_put hj
  have hself : q.cl[i]? = some c2 := by rw [hcl]; exact client_self hi
  have hoth : ∀ j : Nat, j ≠ i → q.cl[j]? = s.cl[j]? := fun j hj => by rw [hcl]; exact client_other hj
  have hmono : ∀ u, stampAt s u ≤ stampAt q u := by
    intro u
    rw [hst]
    split
    · rename_i e; subst e; omega
    · exact Int.le_refl _
  have hW : ∀ σ v, Wr s g σ v → Wr q g σ v := by
    rintro σ v (hw | ⟨j, c', hj, hp', hr1, hr2, hr3⟩)
    · exact .inl hw
    · by_cases e : j = i
      · subst e
        rw [hi] at hj
        cases hj
        obtain ⟨f1, f2, _⟩ := e8 hp'
        exact .inr ⟨j, c2, hself, by omega, by rw [e3]; exact hr1, by omega, by omega⟩
      · exact .inr ⟨j, c', by rw [hoth j e]; exact hj, hp', hr1, hr2, hr3⟩
  have hS : ∀ σ v, Src s g σ v → Src q g σ v := fun σ v hs => hs.imp_right (hW σ v)
  have hci := h.cl i c hi hp
  refine ⟨h.hl, by rw [hops]; exact h.gm, hsz, hlen6, ?_, h.rt, h.time, h.frm, ?_, h.seq, h.wmod, h.nn, fun p hp hw => hS _ _ (h.rd p hp hw), ?_, ?_, ?_, ?_, ?_⟩
  · intro p hp
    refine Nat.lt_of_lt_of_le (h.maj p hp) (Nat.mul_le_mul_left 2 (cnt_mono n fun u _ hu => ?_))
    have := hmono u
    simp at hu ⊢
    omega
  · intro p hp' c' hc' hcp
    rcases hgetq _ _ hc' with ⟨e, rfl⟩ | ⟨_, hc'⟩
    · rw [e2]
      exact h.own p hp' c (by rw [e]; exact hi) (by omega)
    · exact h.own p hp' c' hc' hcp
  · intro u hu
    have h0 := h.cp u hu
    rw [hst, hva]
    split
    · rename_i e
      subst e
      rcases e11 with rfl | ⟨e13, rfl⟩
      · rw [hk0, hk1]; exact ⟨h0.1, hS _ _ h0.2⟩
      · refine ⟨hci.2.2.2.2.1, ?_⟩
        obtain ⟨_, _, hw, hr⟩ := h.two i c hi e13
        cases hwr : c.wr with
        | true => exact .inr (hW _ _ (.inr ⟨i, c, hi, e13, hwr, rfl, rfl⟩))
        | false => exact hS _ _ (hr hwr)
    · exact ⟨h0.1, hS _ _ h0.2⟩
  · intro j c' hc' hcp
    rcases hgetq _ _ hc' with ⟨rfl, rfl⟩ | ⟨_, hc'⟩
    · obtain ⟨h1, h2, h3, h4, h5, m', h6, h7, h8, h9, h10⟩ := hci
      refine ⟨by omega, by omega, by omega, ?_, by omega, m', by rw [e2]; exact h6, h7, h8, by rw [e3]; exact h9, by rw [e4]; exact h10⟩
      rw [e6, e5, cnt_or _ _ _ ht hb, h4]
      simp
    · exact h.cl j c' hc' hcp
  · intro j c' hc' hcp
    rcases hgetq _ _ hc' with ⟨rfl, rfl⟩ | ⟨_, hc'⟩
    · have hcp1 : c.part = 1 := by omega
      obtain ⟨h1, h2⟩ := h.one j c hi hcp1
      refine ⟨?_, fun p hp' hf => ?_⟩
      · rcases e12 with ⟨f1, f2⟩ | ⟨_, f1, f2⟩
        · rw [f1, f2]; exact hS _ _ h1
        · rw [f1, f2, hk0, hk1]; exact hS _ _ (h.cp t ht).2
      · obtain ⟨Q, hQ, hQ2, hQ3⟩ := h2 p hp' (by omega)
        refine ⟨Q, hQ, fun u hu hqu => Int.le_trans (hQ2 u hu hqu) (hmono u), ?_⟩
        cases hqt : Q t with
        | true =>
          left
          have := hQ2 t ht hqt
          have := (e10 hcp1).2
          omega
        | false =>
          rcases hQ3 with hQ3 | hQ3
          · left; omega
          · right
            intro u hu hqu
            rw [e5, bit_or_ne _ _ _ (by rintro rfl; rw [hqt] at hqu; cases hqu)]
            exact hQ3 u hu hqu
    · obtain ⟨h1, h2⟩ := h.one j c' hc' hcp
      refine ⟨hS _ _ h1, fun p hp' hf => ?_⟩
      obtain ⟨Q, hQ, hQ2, hQ3⟩ := h2 p hp' hf
      exact ⟨Q, hQ, fun u hu hqu => Int.le_trans (hQ2 u hu hqu) (hmono u), hQ3⟩
  · intro j c' hc' hcp
    rcases hgetq _ _ hc' with ⟨rfl, rfl⟩ | ⟨_, hc'⟩
    · have hcp1 : c.part = 2 := by omega
      obtain ⟨h1, h2, h3, h4⟩ := h.two j c hi hcp1
      obtain ⟨f1, f2, f3⟩ := e8 hcp1
      refine ⟨?_, ?_, ?_, ?_⟩
      · intro p hp' hf
        rw [f1, e3]
        exact h1 p hp' (by omega)
      · intro u hu hbu
        rw [f1]
        by_cases e : u = t
        · subst e
          rw [hst, if_pos rfl]
          exact f3
        · rw [e5, bit_or_ne _ _ _ e] at hbu
          exact Int.le_trans (h2 u hu hbu) (hmono u)
      · rw [e3, f1, f2, e4]; exact h3
      · rw [e3, f1, f2]; exact fun hw => hS _ _ (h4 hw)
    · obtain ⟨h1, h2, h3, h4⟩ := h.two j c' hc' hcp
      exact ⟨h1, fun u hu hbu => Int.le_trans (h2 u hu hbu) (hmono u), h3, fun hw => hS _ _ (h4 hw)⟩
  · intro k' m' hk' hm
    obtain ⟨h1, h2, h3⟩ := h.beg k' m' hk' hm
    refine ⟨h1, h2, h3.imp_right ?_⟩
    rintro ⟨c', hc', hcp, hb'⟩
    by_cases e : m'.frm.toNat = i
    · rw [e] at hc' ⊢
      rw [hi] at hc'
      cases hc'
      exact ⟨c2, hself, by omega, by omega⟩
    · exact ⟨c', by rw [hoth _ e]; exact hc', hcp, hb'⟩

theorem above_gt' (s i : Int) (hi0 : 0 ≤ i) (hi : i < 6) : s < above s i := by
  unfold above; split <;> omega
theorem above_mod' (s i : Int) (hi0 : 0 ≤ i) (hi : i < 6) : above s i % 6 = i := by
  unfold above; split <;> omega

/-- the first part is ended -/
theorem Inv.turned {n now : Nat} {s : St} {g : G} {H : List (Move × Int)} (h : Inv n s g H now) (i : Nat) (c : Cl) (hi : s.cl[i]? = some c) (hp : c.part = 1) (hm : (n : Int) < 2 * c.many) :
    Inv n (putc s i (turn i c)) g H now := by
  have hi6 : i < 6 := by rw [← h.six]; exact (List.getElem?_eq_some_iff.1 hi).1
  obtain ⟨h1, h2, h3, h4, h5, m, h6, h7, h8, h9, h10⟩ := h.cl i c hi (by omega)
  have ht : (turn i c).part = 2 ∧ (turn i c).beg = c.beg ∧ (turn i c).wr = c.wr ∧ (turn i c).val = c.val ∧ (turn i c).reached = 0 ∧ (turn i c).many = 0 ∧ c.bs ≤ (turn i c).bs ∧
      (c.wr = true → c.bs < (turn i c).bs ∧ (turn i c).bs % 6 = i ∧ (turn i c).bv = c.val) ∧ (c.wr = false → (turn i c).bs = c.bs ∧ (turn i c).bv = c.bv) := by
    have ha := above_gt' c.bs i (by omega) (by omega)
    have ha2 := above_mod' c.bs i (by omega) (by omega)
    unfold turn
    cases hw : c.wr with
    | true => simp; omega
    | false => simp [hw]
  generalize turn i c = c2 at ht ⊢
  obtain ⟨e1, e2, e3, e4, e5, e6, e7, e8, e9⟩ := ht
  have hW : ∀ σ v, Wr s g σ v → Wr (putc s i c2) g σ v := by
    rintro σ v (hw | ⟨j, c', hj, hp', hr⟩)
    · exact .inl hw
    · refine .inr ⟨j, c', ?_, hp', hr⟩
      rw [client_other]
      · exact hj
      · rintro rfl
        rw [hi] at hj
        cases hj
        omega
  have hS : ∀ σ v, Src s g σ v → Src (putc s i c2) g σ v := fun σ v hs => hs.imp_right (hW σ v)
  refine ⟨h.hl, h.gm, h.len, by simpa [putc] using h.six, h.maj, h.rt, h.time, h.frm, ?_, h.seq, h.wmod, h.nn, fun p hp hw => hS _ _ (h.rd p hp hw), fun t ht => ⟨(h.cp t ht).1, hS _ _ (h.cp t ht).2⟩, ?_, ?_, ?_, ?_⟩
  · intro p hp' c' hc' hcp
    rcases client_put hc' with ⟨e, rfl⟩ | ⟨_, hc'⟩
    · rw [e2]
      exact h.own p hp' c (by rw [e]; exact hi) (by omega)
    · exact h.own p hp' c' hc' hcp
  · intro j c' hc' hcp
    rcases client_put hc' with ⟨rfl, rfl⟩ | ⟨_, hc'⟩
    · exact ⟨.inr e1, by omega, by omega, by rw [e6, e5, cnt_zero]; rfl, by omega, m, by rw [e2]; exact h6, h7, h8, by rw [e3]; exact h9, by rw [e4]; exact h10⟩
    · exact h.cl j c' hc' hcp
  · intro j c' hc' hcp
    rcases client_put hc' with ⟨rfl, rfl⟩ | ⟨_, hc'⟩
    · omega
    · obtain ⟨h1, h2⟩ := h.one j c' hc' hcp
      exact ⟨hS _ _ h1, h2⟩
  · intro j c' hc' hcp
    rcases client_put hc' with ⟨rfl, rfl⟩ | ⟨_, hc'⟩
    · obtain ⟨k1, k2⟩ := h.one j c hi hp
      refine ⟨fun p hp' hf => ?_, fun t ht hb => ?_, fun hw => ?_, fun hw => ?_⟩
      · obtain ⟨Q, hQ, hQ2, hQ3⟩ := k2 p hp' (by omega)
        have hle : p.2 ≤ c.bs := by
          rcases hQ3 with hQ3 | hQ3
          · exact hQ3
          · obtain ⟨t, ht, hq, hr⟩ := cnt_meet hQ (q := bit c.reached) (by omega)
            rw [hQ3 t ht hq] at hr
            cases hr
        refine ⟨by omega, fun hw => ?_⟩
        have := (e8 (by rw [← e3]; exact hw)).1
        omega
      · rw [e5, bit_zero_false] at hb
        cases hb
      · obtain ⟨f1, f2, f3⟩ := e8 (by rw [← e3]; exact hw)
        exact ⟨by omega, f2, by rw [f3, e4]⟩
      · obtain ⟨f1, f2⟩ := e9 (by rw [← e3]; exact hw)
        rw [f1, f2]
        exact hS _ _ k1
    · obtain ⟨h1, h2, h3, h4⟩ := h.two j c' hc' hcp
      exact ⟨h1, h2, h3, fun hw => hS _ _ (h4 hw)⟩
  · intro k' m' hk' hm
    obtain ⟨h1, h2, h3⟩ := h.beg k' m' hk' hm
    refine ⟨h1, h2, h3.imp_right ?_⟩
    rintro ⟨c', hc', hcp, hb'⟩
    by_cases e : m'.frm.toNat = i
    · rw [e] at hc' ⊢
      rw [hi] at hc'
      cases hc'
      exact ⟨c2, client_self hi, by omega, by omega⟩
    · exact ⟨c', by rw [client_other e]; exact hc', hcp, hb'⟩

/-- the second part is ended: the operation is done -/
theorem Inv.ended {n now : Nat} {s : St} {g : G} {H : List (Move × Int)} (h : Inv n s g H (now + 1)) (i : Nat) (c : Cl) (hi : s.cl[i]? = some c) (hp : c.part = 2) (hm : (n : Int) < 2 * c.many)
    (hbeg : ∀ (j : Nat) (c' : Cl), s.cl[j]? = some c' → c'.part ≠ 0 → c'.beg < now) (hfin : ∀ p ∈ g, p.1.fin < now) (fl : Nat) :
    Inv n { putc s i { c with part := 0, reached := 0, many := 0 } with ops := s.ops ++ [⟨i, c.beg, now, c.wr, c.bv⟩], failed := fl } (g ++ [(⟨i, c.beg, now, c.wr, c.bv⟩, c.bs)]) H (now + 1) := by
  have hi6 : i < 6 := by rw [← h.six]; exact (List.getElem?_eq_some_iff.1 hi).1
  have hbi := hbeg i c hi (by omega)
  obtain ⟨h1, h2, h3, h4, h5, m, h6, h7, h8, h9, h10⟩ := h.cl i c hi (by omega)
  obtain ⟨t1, t2, t3, t4⟩ := h.two i c hi hp
  have hgetq : ∀ (j : Nat) (c' : Cl), (putc s i { c with part := 0, reached := 0, many := 0 }).cl[j]? = some c' → c'.part ≠ 0 → j ≠ i ∧ s.cl[j]? = some c' := by
    intro j c' hj hcp
    rcases client_put hj with ⟨rfl, rfl⟩ | h
    · exact absurd rfl hcp
    · exact h
  have hW : ∀ σ v, Wr s g σ v → Wr { putc s i { c with part := 0, reached := 0, many := 0 } with ops := s.ops ++ [⟨i, c.beg, now, c.wr, c.bv⟩], failed := fl } (g ++ [(⟨i, c.beg, now, c.wr, c.bv⟩, c.bs)]) σ v := by
    rintro σ v (⟨p, hp', hw⟩ | ⟨j, c', hj, hp', hr1, hr2, hr3⟩)
    · exact .inl ⟨p, List.mem_append_left _ hp', hw⟩
    · by_cases e : j = i
      · subst e
        rw [hi] at hj
        cases hj
        exact .inl ⟨_, List.mem_append_right _ (List.mem_singleton.2 rfl), hr1, hr2, hr3⟩
      · refine .inr ⟨j, c', ?_, hp', hr1, hr2, hr3⟩
        show (putc s i _).cl[j]? = _
        rw [client_other e]
        exact hj
  have hS : ∀ σ v, Src s g σ v → Src { putc s i { c with part := 0, reached := 0, many := 0 } with ops := s.ops ++ [⟨i, c.beg, now, c.wr, c.bv⟩], failed := fl } (g ++ [(⟨i, c.beg, now, c.wr, c.bv⟩, c.bs)]) σ v := fun σ v hs => hs.imp_right (hW σ v)
  have hmem : ∀ p ∈ g ++ [((⟨i, c.beg, now, c.wr, c.bv⟩ : Op), c.bs)], p ∈ g ∨ p = (⟨i, c.beg, now, c.wr, c.bv⟩, c.bs) := by
    intro p hp'
    rcases List.mem_append.1 hp' with h | h
    · exact .inl h
    · exact .inr (List.mem_singleton.1 h)
  refine ⟨h.hl, by rw [List.map_append, h.gm]; rfl, h.len, by simpa [putc] using h.six, ?_, ?_, ?_, ?_, ?_, ?_, ?_, ?_, ?_, ?_, ?_, ?_, ?_, ?_⟩
  · intro p hp'
    rcases hmem p hp' with hp' | rfl
    · exact h.maj p hp'
    · have : cnt (bit c.reached) n ≤ cnt (fun t => decide (c.bs ≤ stampAt s t)) n := cnt_mono n fun t ht hb => by simpa using t2 t ht hb
      show n < 2 * cnt (fun t => decide (c.bs ≤ stampAt s t)) n
      omega
  · intro p hp' q hq' hf
    rcases hmem p hp' with hp' | rfl
    · rcases hmem q hq' with hq' | rfl
      · exact h.rt p hp' q hq' hf
      · exact t1 p hp' hf
    · rcases hmem q hq' with hq' | rfl
      · have := h.time q hq'
        have := hfin q hq'
        dsimp only at hf
        omega
      · dsimp only at hf
        omega
  · intro p hp'
    rcases hmem p hp' with hp' | rfl
    · exact h.time p hp'
    · dsimp only; omega
  · intro p hp'
    rcases hmem p hp' with hp' | rfl
    · exact h.frm p hp'
    · dsimp only; omega
  · intro p hp' c' hc' hcp
    obtain ⟨hj, hc'⟩ := hgetq _ _ hc' hcp
    rcases hmem p hp' with hp' | rfl
    · exact h.own p hp' c' hc' hcp
    · exact absurd (Int.toNat_natCast i) hj
  · rw [List.pairwise_append]
    refine ⟨h.seq, List.pairwise_singleton _ _, fun p hp' q hq' e => ?_⟩
    rw [List.mem_singleton] at hq'
    subst hq'
    dsimp only at e ⊢
    exact h.own p hp' c (by rw [e, Int.toNat_natCast]; exact hi) (by omega)
  · intro p hp' hw
    rcases hmem p hp' with hp' | rfl
    · exact h.wmod p hp' hw
    · obtain ⟨f1, f2, _⟩ := t3 hw
      exact ⟨f1, f2⟩
  · intro p hp'
    rcases hmem p hp' with hp' | rfl
    · exact h.nn p hp'
    · exact h5
  · intro p hp' hw
    rcases hmem p hp' with hp' | rfl
    · exact hS _ _ (h.rd p hp' hw)
    · exact hS _ _ (t4 hw)
  · exact fun t ht => ⟨(h.cp t ht).1, hS _ _ (h.cp t ht).2⟩
  · intro j c' hc' hcp
    obtain ⟨_, hc'⟩ := hgetq _ _ hc' hcp
    exact h.cl j c' hc' hcp
  · intro j c' hc' hcp
    obtain ⟨_, hc'⟩ := hgetq _ _ hc' (by omega)
    obtain ⟨k1, k2⟩ := h.one j c' hc' hcp
    refine ⟨hS _ _ k1, fun p hp' hf => ?_⟩
    rcases hmem p hp' with hp' | rfl
    · exact k2 p hp' hf
    · have := hbeg j c' hc' (by omega)
      dsimp only at hf
      omega
  · intro j c' hc' hcp
    obtain ⟨_, hc'⟩ := hgetq _ _ hc' (by omega)
    obtain ⟨k1, k2, k3, k4⟩ := h.two j c' hc' hcp
    refine ⟨fun p hp' hf => ?_, k2, k3, fun hw => hS _ _ (k4 hw)⟩
    rcases hmem p hp' with hp' | rfl
    · exact k1 p hp' hf
    · have := hbeg j c' hc' (by omega)
      dsimp only at hf
      omega
  · intro k' m' hk' hm'
    obtain ⟨k1, k2, k3⟩ := h.beg k' m' hk' hm'
    refine ⟨k1, k2, ?_⟩
    rcases k3 with ⟨p, hp', e⟩ | ⟨c', hc', hcp, hb'⟩
    · exact .inl ⟨p, List.mem_append_left _ hp', e⟩
    · by_cases e : m'.frm.toNat = i
      · rw [e, hi] at hc'
        cases hc'
        exact .inl ⟨_, List.mem_append_right _ (List.mem_singleton.2 rfl), by dsimp only; omega, hb'⟩
      · refine .inr ⟨c', ?_, hcp, hb'⟩
        show (putc s i _).cl[_]? = _
        rw [client_other e]
        exact hc'
end Go.Proofs.Ytbibibpliahclaa.Cp.Pl
