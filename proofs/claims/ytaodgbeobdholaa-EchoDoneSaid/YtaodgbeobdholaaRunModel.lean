/-
  What the runs' code computes, as plain functions (no program is named).
-/
namespace Go.Proofs.Ytaodgbeobdholaa.Rn

structure Ev where
  proc : Int
  kind : Int
  msg : Int
  deriving Inhabited, DecidableEq

def upF (f : Int → Int) (k v : Int) : Int → Int := fun x => if x = k then v else f x

/-- run.Check, event by event: what was sent is at 1, what was taken at 2 -/
def chk (n : Int) : (Int → Int) → List Ev → Int
  | _, [] => 0
  | st, e :: r =>
    if e.proc < 0 ∨ n ≤ e.proc then 2
    else if e.kind < 1 ∨ 3 < e.kind then 6
    else if e.kind = 1 then chk n st r
    else if e.msg < 0 ∨ 20 < e.msg then 4
    else if st e.msg ≠ e.kind - 2 then 3
    else chk n (upF st e.msg (st e.msg + 1)) r

theorem chk_cons (n : Int) (st : Int → Int) (e : Ev) (r : List Ev) : chk n st (e :: r) = if e.proc < 0 ∨ n ≤ e.proc then 2
    else if e.kind < 1 ∨ 3 < e.kind then 6
    else if e.kind = 1 then chk n st r
    else if e.msg < 0 ∨ 20 < e.msg then 4
    else if st e.msg ≠ e.kind - 2 then 3
    else chk n (upF st e.msg (st e.msg + 1)) r := rfl
def check (n : Int) (L : List Ev) : Int := if n < 1 ∨ 6 < n ∨ 30 < L.length then 1 else chk n (fun _ => 0) L

/-- how many events of a kind with a message -/
def many (kd m : Int) (l : List Ev) : Int := ((l.filter fun e => decide (e.kind = kd) && decide (e.msg = m)).length : Int)
theorem many_snoc (kd m : Int) (l : List Ev) (e : Ev) : many kd m (l ++ [e]) = many kd m l + if e.kind = kd ∧ e.msg = m then 1 else 0 := by
  unfold many
  rw [List.filter_append, List.length_append]
  by_cases h : e.kind = kd ∧ e.msg = m
  · rw [if_pos h]; simp [h]
  · rw [if_neg h]
    have : ([e].filter fun e => decide (e.kind = kd) && decide (e.msg = m)) = [] := by
      simp
      intro h1 h2; exact h ⟨h1, h2⟩
    rw [this]; simp
theorem many_take (kd m : Int) (L : List Ev) (k : Nat) (e : Ev) (h : L[k]? = some e) : many kd m (L.take (k + 1)) = many kd m (L.take k) + if e.kind = kd ∧ e.msg = m then 1 else 0 := by
  have : L.take (k + 1) = L.take k ++ [e] := by rw [List.take_add_one, h]; rfl
  rw [this, many_snoc]
theorem many_bound (kd m : Int) (L : List Ev) (k : Nat) (h : k ≤ L.length) : 0 ≤ many kd m (L.take k) ∧ many kd m (L.take k) ≤ k := by
  unfold many
  have := List.length_filter_le (fun e : Ev => decide (e.kind = kd) && decide (e.msg = m)) (L.take k)
  rw [List.length_take] at this
  omega
/-- what Check's map holds -/
def stF (L : List Ev) (k : Nat) : Int → Int := fun m => many 2 m (L.take k) + many 3 m (L.take k)
/-- what is left when k events are done, in the other's words -/
def ChkR (n : Int) (L : List Ev) (k : Nat) : Prop := chk n (fun _ => 0) L = chk n (stF L k) (L.drop k) ∧ ∀ m, many 3 m (L.take k) ≤ many 2 m (L.take k) ∧ many 2 m (L.take k) ≤ 1 ∧ 0 ≤ many 3 m (L.take k)
theorem ChkR.start (n : Int) (L : List Ev) : ChkR n L 0 := ⟨by
  have : stF L 0 = fun _ => 0 := by funext m; simp [stF, many]
  rw [this]; rfl, fun m => by simp [many]⟩
theorem drop_get {L : List Ev} {k : Nat} {e : Ev} (h : L[k]? = some e) : L.drop k = e :: L.drop (k + 1) := by
  obtain ⟨hk, rfl⟩ := List.getElem?_eq_some_iff.1 h
  exact List.drop_eq_getElem_cons hk
theorem ChkR.local {n : Int} {L : List Ev} {k : Nat} {e : Ev} (he : L[k]? = some e) (hk : e.kind = 1) (h : chk n (fun _ => 0) L = chk n (stF L k) (L.drop (k + 1))) (hb : ∀ m, many 3 m (L.take k) ≤ many 2 m (L.take k) ∧ many 2 m (L.take k) ≤ 1 ∧ 0 ≤ many 3 m (L.take k)) : ChkR n L (k + 1) := by
  have e2 : ∀ kd m, kd ≠ 1 → many kd m (L.take (k + 1)) = many kd m (L.take k) := fun kd m hd => by rw [many_take kd m L k e he, if_neg (by omega)]; omega
  refine ⟨?_, fun m => by rw [e2 3 m (by omega), e2 2 m (by omega)]; exact hb m⟩
  have : stF L (k + 1) = stF L k := by funext m; unfold stF; rw [e2 2 m (by omega), e2 3 m (by omega)]
  rw [this]; exact h
theorem ChkR.other {n : Int} {L : List Ev} {k : Nat} {e : Ev} (he : L[k]? = some e) (hk : e.kind = 2 ∨ e.kind = 3) (hs : stF L k e.msg = e.kind - 2) (h : chk n (fun _ => 0) L = chk n (upF (stF L k) e.msg (stF L k e.msg + 1)) (L.drop (k + 1)))
    (hb : ∀ m, many 3 m (L.take k) ≤ many 2 m (L.take k) ∧ many 2 m (L.take k) ≤ 1 ∧ 0 ≤ many 3 m (L.take k)) : ChkR n L (k + 1) := by
  have e2 := fun m => many_take 2 m L k e he
  have e3 := fun m => many_take 3 m L k e he
  refine ⟨?_, fun m => ?_⟩
  · have : stF L (k + 1) = upF (stF L k) e.msg (stF L k e.msg + 1) := by
      funext m
      unfold upF stF
      rw [e2, e3]
      by_cases hm : m = e.msg
      · subst hm
        rw [if_pos rfl]
        rcases hk with hk | hk <;> simp [hk] <;> omega
      · rw [if_neg hm, if_neg (fun h => hm h.2.symm), if_neg (fun h => hm h.2.symm)]
        omega
    rw [this]; exact h
  · have hbm := hb m
    rw [e2, e3]
    by_cases hm : e.msg = m
    · subst hm
      unfold stF at hs
      rcases hk with hk | hk <;> simp [hk] at hs ⊢ <;> omega
    · rw [if_neg (fun h => hm h.2), if_neg (fun h => hm h.2)]
      omega

/-- tick.ticks: c: of each process its last tick; s: of each message the tick of its sending -/
def tickOf (c s : Int → Int) (e : Ev) : Int := (if e.kind = 3 then max (c e.proc) (s e.msg) else c e.proc) + 1
def tks (c s : Int → Int) : List Ev → List Int
  | [] => []
  | e :: r => tickOf c s e :: tks (upF c e.proc (tickOf c s e)) (if e.kind = 2 then upF s e.msg (tickOf c s e) else s) r
def ticks (L : List Ev) : List Int := tks (fun _ => 0) (fun _ => 0) L
theorem tks_cons (c s : Int → Int) (e : Ev) (r : List Ev) : tks c s (e :: r) = tickOf c s e :: tks (upF c e.proc (tickOf c s e)) (if e.kind = 2 then upF s e.msg (tickOf c s e) else s) r := rfl
theorem tks_len (L : List Ev) : ∀ c s, (tks c s L).length = L.length := by
  induction L with
  | nil => intro c s; rfl
  | cons e L ih => intro c s; rw [tks_cons]; simp [ih]
structure TkS (L : List Ev) (k : Nat) (c s : Int → Int) (T : List Int) : Prop where
  all : ticks L = T ++ tks c s (L.drop k)
  len : T.length = k
  c0 : ∀ x, 0 ≤ c x ∧ c x ≤ k
  s0 : ∀ x, 0 ≤ s x ∧ s x ≤ k
theorem TkS.start (L : List Ev) : TkS L 0 (fun _ => 0) (fun _ => 0) [] := ⟨rfl, rfl, fun _ => ⟨Int.le_refl _, Int.le_refl _⟩, fun _ => ⟨Int.le_refl _, Int.le_refl _⟩⟩
theorem TkS.tick {L : List Ev} {k : Nat} {c s : Int → Int} {T : List Int} (h : TkS L k c s T) (e : Ev) : 1 ≤ tickOf c s e ∧ tickOf c s e ≤ k + 1 := by
  have := h.c0 e.proc
  have := h.s0 e.msg
  unfold tickOf
  split <;> omega
theorem TkS.step {L : List Ev} {k : Nat} {c s : Int → Int} {T : List Int} (h : TkS L k c s T) {e : Ev} (he : L[k]? = some e) :
    TkS L (k + 1) (upF c e.proc (tickOf c s e)) (if e.kind = 2 then upF s e.msg (tickOf c s e) else s) (T ++ [tickOf c s e]) := by
  have ht := h.tick e
  refine ⟨?_, by simp [h.len], fun x => ?_, fun x => ?_⟩
  · rw [h.all, drop_get he, tks_cons]; simp
  · have := h.c0 x; unfold upF; split <;> omega
  · have := h.s0 x
    split
    · unfold upF; split <;> omega
    · omega
end Go.Proofs.Ytaodgbeobdholaa.Rn
