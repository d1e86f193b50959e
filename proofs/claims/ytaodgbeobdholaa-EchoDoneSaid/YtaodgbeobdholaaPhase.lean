/-
  A region that draws its order, parted in two: the first operations, in whatever order; behind all of them the rest, each of which waits for every first one.
-/
import Derived.Test.YtaodgbeobdholaaMem
import Derived.OrdersHeld
import Derived.Deep.RegionHeld3
namespace Go.Proofs.Ytaodgbeobdholaa.Mem
open Go Go.RowKit

/-- Does operation t wait for operation h, itself or through others? -/
def waitsUpon (md : Region.Mode) (ops : Array Oper) (h : Nat) : Nat → Nat → Bool
  | 0, _ => false
  | f + 1, t => match ops[t]? with
    | some o => o.after.any (fun e => Region.binds md e && e.on == h) || o.after.any (fun e => Region.binds md e && waitsUpon md ops h f e.on)
    | none => false

/-- What owns a row is a slice's value. -/
theorem ownsRow_form {w : World} {base : Nat} {e : TypeId} {size : Nat} {v : Value} {n : Nat} {xs : List Value} (h : w.ownsRow base e size v n xs) : ∃ a c, v = .slice a n c := by
  rcases h.2 with ⟨h1, h2⟩ | ⟨g, cap, cur, h1, _⟩
  · subst h2; exact ⟨none, 0, h1⟩
  · exact ⟨_, _, h1⟩

/-- What is asked of the parts, as one closed fact. -/
def parted (md : Region.Mode) (ops H : Array Oper) : Bool :=
  decide (H.size ≤ ops.size) &&
  (List.range H.size).all (fun i => match ops[i]? with
    | some o => o.after.all (fun e => !Region.binds md e || decide (e.on < i)) && (match o.guard with | none => true | some (j, _) => decide (j < H.size))
    | none => false) &&
  (List.range ops.size).all (fun t => decide (t < H.size) || (List.range H.size).all fun h => waitsUpon md ops h ops.size t)

section
variable {P : Program} {md : Region.Mode} {ops H : Array Oper} {Q : Exit → Act → World → Prop}

/-- behind the first part the second is to be walked -/
def Then2 (P : Program) (md : Region.Mode) (ops H : Array Oper) (Q : Exit → Act → World → Prop) : Exit → Act → World → Prop
  | .normal, a, w => wpAny P md ops Q (ops.size - H.size) (Array.replicate H.size true ++ Array.replicate (ops.size - H.size) false) a w
  | e, a, w => Q e a w

theorem wp_then2 {o : Oper} {a : Act} {w : World} {K K' : Act → World → Prop} (h : ∀ a w, K a w → K' a w) (hh : o.wp P a w K (Then2 P md ops H Q)) : o.wp P a w K' Q := by
  unfold Oper.wp at *
  generalize (execOp a.eval o).run P w = r at *
  cases r with
  | ok n w' =>
    cases n <;> simp only [Oper.upon] at hh ⊢ <;>
      first
        | exact h _ _ hh
        | exact Calls.mono hh (fun e w'' he => by cases e <;> first | exact h _ _ he | exact he)
        | exact Rows.mono hh (fun _ _ he => h _ _ he)
  | halt x w' => cases x <;> simp only [Oper.upon] at hh ⊢ <;> exact hh

theorem getD_app1 (l : Array Bool) (k i : Nat) (d : Bool) (h : i < l.size) : (l ++ Array.replicate k false).getD i d = l.getD i d := by
  simp [Array.getD_eq_getD_getElem?, Array.getElem?_append, h]
theorem getD_app2 (l : Array Bool) (k i : Nat) (d : Bool) (h : l.size ≤ i) (hk : i < l.size + k) : (l ++ Array.replicate k false).getD i d = false := by
  have h' : ¬ i < l.size := by omega
  have h2 : i - l.size < k := by omega
  simp [Array.getD_eq_getD_getElem?, Array.getElem?_append, h', h2]

/-- how many have not come up -/
def open_ (l : Array Bool) : Nat := l.toList.count false

theorem open_zero {l : Array Bool} (h : open_ l = 0) : l = Array.replicate l.size true := by
  apply Array.ext'
  simp only [Array.toList_replicate]
  unfold open_ at h
  have h1 : ∀ b ∈ l.toList, b = true := by
    intro b hb
    cases b with
    | true => rfl
    | false => exact absurd h (by have := List.count_pos_iff.2 hb; omega)
  have := List.eq_replicate_of_mem h1
  simpa using this
theorem count_set_true : ∀ (l : List Bool) (i : Nat), l[i]? = some false → (l.set i true).count false + 1 = l.count false
  | [], _, h => by simp at h
  | b :: l, 0, h => by simp at h; subst h; simp
  | b :: l, i + 1, h => by
    have ih := count_set_true l i (by simpa using h)
    simp only [List.set_cons_succ, List.count_cons]
    omega
theorem first_false : ∀ (l : List Bool), 0 < l.count false → ∃ i : Nat, l[i]? = some false ∧ ∀ j : Nat, j < i → l[j]? = some true
  | [], h => by simp at h
  | false :: l, _ => ⟨0, rfl, fun j hj => by omega⟩
  | true :: l, h => by
    obtain ⟨i, hi, hj⟩ := first_false l (by simpa using h)
    refine ⟨i + 1, by simpa using hi, fun j hlt => ?_⟩
    cases j with
    | zero => rfl
    | succ j => simpa using hj j (by omega)
theorem getD_some {l : Array Bool} {i : Nat} {b d : Bool} (h : l.toList[i]? = some b) : l.getD i d = b := by
  simp [Array.getD_eq_getD_getElem?] at h ⊢
  simp [h]
theorem open_set {l : Array Bool} {i : Nat} (hi : l.getD i true = false) : open_ (l.setIfInBounds i true) + 1 = open_ l := by
  have hlt : i < l.size := by
    rcases Nat.lt_or_ge i l.size with h | h
    · exact h
    · simp [Array.getD_eq_getD_getElem?, Array.getElem?_eq_none h] at hi
  have hv : l.toList[i]? = some false := by
    simp [Array.getD_eq_getD_getElem?, hlt] at hi
    simp [hlt, hi]
  unfold open_
  rw [Array.toList_setIfInBounds]
  exact count_set_true _ _ hv
theorem first_open {l : Array Bool} (h : 0 < open_ l) : ∃ i, i < l.size ∧ l.getD i true = false ∧ ∀ j, j < i → l.getD j false = true := by
  obtain ⟨i, hi, hj⟩ := first_false l.toList h
  have hlt : i < l.size := by
    have := (List.getElem?_eq_some_iff.1 hi).1
    simpa using this
  exact ⟨i, hlt, getD_some hi, fun j hlt' => getD_some (hj j hlt')⟩

theorem mem_ready' {i : Nat} {l : Array Bool} : i ∈ Region.ready md ops l ↔ l.getD i true = false ∧ ∃ o, ops[i]? = some o ∧ ∀ e ∈ o.after, Region.binds md e = true → l.getD e.on false = true := mem_ready

theorem parted_spec (h : parted md ops H = true) :
    H.size ≤ ops.size ∧ (∀ i o, i < H.size → ops[i]? = some o → (∀ e ∈ o.after, Region.binds md e = true → e.on < i) ∧ ∀ j b, o.guard = some (j, b) → j < H.size) ∧
    (∀ t, H.size ≤ t → t < ops.size → ∀ k, k < H.size → waitsUpon md ops k ops.size t = true) := by
  unfold parted at h
  simp only [Bool.and_eq_true, decide_eq_true_eq] at h
  obtain ⟨⟨h1, h2⟩, h3⟩ := h
  refine ⟨h1, fun i o hi ho => ?_, fun t ht htl k hk => ?_⟩
  · have := List.all_eq_true.1 h2 i (List.mem_range.2 hi)
    simp only [ho, Bool.and_eq_true] at this
    obtain ⟨ha, hg⟩ := this
    refine ⟨fun e he hb => ?_, fun j b hgu => ?_⟩
    · have := Array.all_eq_true'.1 ha e he
      simpa [hb] using this
    · rw [hgu] at hg; simpa using hg
  · have := List.all_eq_true.1 h3 t (List.mem_range.2 htl)
    have hn : ¬ t < H.size := by omega
    simp only [hn, decide_false, Bool.false_or] at this
    exact List.all_eq_true.1 this k (List.mem_range.2 hk)

/-- whatever has come up, all that it waits for has come up -/
def Closed (md : Region.Mode) (ops : Array Oper) (l : Array Bool) : Prop := ∀ i o, ops[i]? = some o → l.getD i false = true → ∀ e ∈ o.after, Region.binds md e = true → l.getD e.on false = true

theorem waits_listed {l : Array Bool} (hc : Closed md ops l) (h : Nat) : ∀ (f t : Nat) (o : Oper), ops[t]? = some o → (∀ e ∈ o.after, Region.binds md e = true → l.getD e.on false = true) → waitsUpon md ops h f t = true → l.getD h false = true := by
  intro f
  induction f with
  | zero => intro t o _ _ hw; simp [waitsUpon] at hw
  | succ f ih =>
    intro t o ho hall hw
    simp only [waitsUpon, ho, Bool.or_eq_true] at hw
    rcases hw with hw | hw
    · obtain ⟨e, he, hb⟩ := Array.any_eq_true'.1 hw
      simp only [Bool.and_eq_true, beq_iff_eq] at hb
      have := hall e he hb.1
      rwa [hb.2] at this
    · obtain ⟨e, he, hb⟩ := Array.any_eq_true'.1 hw
      simp only [Bool.and_eq_true] at hb
      cases ho2 : ops[e.on]? with
      | none =>
        have h2 := hb.2
        cases f with
        | zero => simp [waitsUpon] at h2
        | succ f => simp [waitsUpon, ho2] at h2
      | some o2 => exact ih e.on o2 ho2 (hc e.on o2 ho2 (hall e he hb.1)) hb.2

theorem Closed.set {l : Array Bool} {i : Nat} (hc : Closed md ops l) (hi : i ∈ Region.ready md ops l) : Closed md ops (l.setIfInBounds i true) := by
  obtain ⟨_, oi, hoi, hall⟩ := mem_ready'.1 hi
  intro j o ho hl e he hb
  by_cases hij : i = j
  · subst hij
    have : o = oi := Option.some.inj (ho.symm.trans hoi)
    subst this
    exact getD_set_true (hall e he hb)
  · rw [getD_set_ne false hij] at hl
    exact getD_set_true (hc j o ho hl e he hb)

theorem wanted_same (o : Oper) (hg : ∀ j b, o.guard = some (j, b) → j < H.size) (hH : ∀ i, i < H.size → H[i]? = ops[i]?) (t : Array Value) :
    Region.wanted o (yielded H t) = Region.wanted o (yielded ops t) := by
  unfold Region.wanted
  cases hgu : o.guard with
  | none => rfl
  | some p =>
    obtain ⟨j, b⟩ := p
    have := hH j (hg j b hgu)
    simp only [yielded, this]

theorem split_walk (hp : parted md ops H = true) (hH : ∀ i, i < H.size → H[i]? = ops[i]?) :
    ∀ (fuel : Nat) (l : Array Bool) (a : Act) (w : World), l.size = H.size → open_ l = fuel → Closed md ops (l ++ Array.replicate (ops.size - H.size) false) → wpAny P md H (Then2 P md ops H Q) fuel l a w →
      wpAny P md ops Q (fuel + (ops.size - H.size)) (l ++ Array.replicate (ops.size - H.size) false) a w := by
  obtain ⟨hle, hhead, htail⟩ := parted_spec hp
  intro fuel
  induction fuel with
  | zero =>
    intro l a w hs ho hc h
    have e := open_zero ho
    rw [hs] at e
    rw [e, Nat.zero_add]
    exact h.2
  | succ fuel ih =>
    intro l a w hs ho hc h
    obtain ⟨f, hf, hf1, hf2⟩ := first_open (l := l) (by omega)
    have hfo : ∃ o, ops[f]? = some o := ⟨ops[f], Array.getElem?_eq_getElem (by omega)⟩
    obtain ⟨o, ho2⟩ := hfo
    have hfr : f ∈ Region.ready md ops (l ++ Array.replicate (ops.size - H.size) false) := by
      refine mem_ready'.2 ⟨by rw [getD_app1 _ _ _ _ hf]; exact hf1, o, ho2, fun e he hb => ?_⟩
      have hlt := (hhead f o (by omega) ho2).1 e he hb
      rw [getD_app1 _ _ _ _ (by omega)]
      exact hf2 _ hlt
    rw [show fuel + 1 + (ops.size - H.size) = (fuel + (ops.size - H.size)) + 1 by omega]
    refine ⟨fun h0 => (by rw [h0] at hfr; cases hfr), fun i hi => ?_⟩
    obtain ⟨hi1, oi, hoi, hall⟩ := mem_ready'.1 hi
    have hil : i < H.size := by
      rcases Nat.lt_or_ge i H.size with h' | h'
      · exact h'
      · have := waits_listed hc f _ i oi hoi hall (htail i h' (Array.getElem?_eq_some_iff.1 hoi).1 f (by omega))
        rw [getD_app1 _ _ _ _ hf] at this
        have h2 : l.getD f true = true := by
          simp [Array.getD_eq_getD_getElem?, hf] at this ⊢
          exact this
        rw [hf1] at h2; cases h2
    rw [getD_app1 _ _ _ _ (by omega)] at hi1
    have hiH : i ∈ Region.ready md H l := by
      refine mem_ready'.2 ⟨hi1, oi, by rw [hH i hil]; exact hoi, fun e he hb => ?_⟩
      have hlt := (hhead i oi hil hoi).1 e he hb
      have := hall e he hb
      rwa [getD_app1 _ _ _ _ (by omega)] at this
    have h1 := h.2 i hiH
    have hnext : ∀ a w, wpAny P md H (Then2 P md ops H Q) fuel (l.setIfInBounds i true) a w → wpAny P md ops Q (fuel + (ops.size - H.size)) ((l ++ Array.replicate (ops.size - H.size) false).setIfInBounds i true) a w := by
      intro a w h2
      have := ih (l.setIfInBounds i true) a w (by simpa using hs) (by have := open_set hi1; omega) (by rw [← Array.setIfInBounds_append_left (by omega)]; exact hc.set hi) h2
      rw [Array.setIfInBounds_append_left (by omega)]
      exact this
    unfold wpOp at h1 ⊢
    rw [hH i hil, hoi] at h1
    rw [hoi]
    simp only at h1 ⊢
    rw [wanted_same oi (hhead i oi hil hoi).2 hH] at h1
    split
    · rename_i hw
      simp only [hw, if_true] at h1
      rcases h1 with h1 | ⟨h1, a0, w0, h3⟩
      · exact .inl (wp_then2 hnext h1)
      · exact .inr ⟨h1, a0, w0, h3⟩
    · rename_i hw
      simp only [hw] at h1
      exact hnext _ _ h1

/-- The beginning: S is held while the first operations come up. -/
theorem wp_region_parted {S : World → Prop} {id : Nat} {a : Act} {w : World} (H : Array Oper) (hm : P.follows .mixedOrders = true) (hp : parted .any ops H = true) (hH : H = ops.extract 0 H.size) (hS : S w.drew)
    (h : S w.drew → wpAnyH P .any H (Then2 P .any ops H Q) S H.size (Array.replicate H.size false) a w.drew) : (Code.region id ops true).wp P Q a w := by
  refine wp_region_any hm ?_
  have hH' : ∀ i, i < H.size → H[i]? = ops[i]? := by
    intro i hi
    conv => lhs; rw [hH]
    rw [Array.getElem?_extract]
    have hle : H.size ≤ ops.size := by
      have := (Bool.and_eq_true _ _ ▸ (Bool.and_eq_true _ _ ▸ hp).1).1
      simpa using this
    simp
    omega
  have := split_walk hp hH' H.size (Array.replicate H.size false) a w.drew (by simp) (by simp [open_]) (fun j o _ hl => by simp [Array.getD_eq_getD_getElem?, Array.getElem?_replicate] at hl; revert hl; split <;> (try split) <;> simp) (wpAny_of_held _ _ _ _ (h hS))
  have hle := (parted_spec hp).1
  rw [show H.size + (ops.size - H.size) = ops.size by omega] at this
  have e : Array.replicate H.size false ++ Array.replicate (ops.size - H.size) false = Array.replicate ops.size false := by
    rw [Array.replicate_append_replicate]
    congr 1
    omega
  rw [e] at this
  exact this
end
end Go.Proofs.Ytaodgbeobdholaa.Mem
