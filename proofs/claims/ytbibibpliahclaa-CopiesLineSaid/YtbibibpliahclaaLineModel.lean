/-
  What the search for an order computes, as plain functions (no program is named).
-/
import Derived.Test.YtbibibpliahclaaModel
namespace Go.Proofs.Ytbibibpliahclaa.Cp

def endedB (a b : Op) : Bool := decide (a.fin < b.beg)
def sameB (a b : Op) : Bool := decide (a.frm = b.frm) && decide (a.beg < b.beg)
def behindB (a b : Op) : Bool := endedB a b || sameB a b
/-- must something stand ahead that is not done? -/
def waitsB (L : List Op) (done : Nat) (b : Op) : Bool := (List.range L.length).any fun j => !bit done j && behindB (L.getD j default) b
def nowAt (L : List Op) (last : Int) : Int := if 0 ≤ last then (L.getD last.toNat default).val else 0
def elig (L : List Op) (done : Nat) (last : Int) (i : Nat) : Bool :=
  !bit done i && !waitsB L done (L.getD i default) && ((L.getD i default).wr || decide ((L.getD i default).val = nowAt L last))
def nextOf (L : List Op) (last : Int) (i : Nat) : Int := if (L.getD i default).wr then i else last

/-- an order of what is left may be had -/
inductive Can (L : List Op) : Nat → Int → Prop
  | fin (last : Int) : Can L (2 ^ L.length - 1) last
  | step (done : Nat) (last : Int) (i : Nat) : i < L.length → elig L done last i = true → Can L (done ||| 2 ^ i) (nextOf L last i) → Can L done last

theorem not_can {L : List Op} {done : Nat} {last : Int} (hd : done ≠ 2 ^ L.length - 1) (h : ∀ i, i < L.length → elig L done last i = true → ¬ Can L (done ||| 2 ^ i) (nextOf L last i)) : ¬ Can L done last := by
  intro hc
  cases hc with
  | fin => exact hd rfl
  | step _ _ i hi he hn => exact h i hi he hn

/-- how many are left -/
def left (n done : Nat) : Nat := ((List.range n).filter fun j => !bit done j).length

theorem bit_or_self (x i : Nat) : bit (x ||| 2 ^ i) i = true := by
  have : Nat.testBit (x ||| 2 ^ i) i = true := by simp
  unfold bit
  rw [Nat.testBit_eq_decide_div_mod_eq] at this
  simpa using this
theorem bit_or_of (x i j : Nat) (h : bit x j = true) : bit (x ||| 2 ^ i) j = true := by
  have hx : Nat.testBit x j = true := by
    rw [Nat.testBit_eq_decide_div_mod_eq]
    unfold bit at h
    simpa using h
  have : Nat.testBit (x ||| 2 ^ i) j = true := by simp [hx]
  unfold bit
  rw [Nat.testBit_eq_decide_div_mod_eq] at this
  simpa using this

theorem filter_lt {α : Type} (p q : α → Bool) (l : List α) (hpq : ∀ a, q a = true → p a = true) {a : α} (ha : a ∈ l) (hp : p a = true) (hq : q a = false) : (l.filter q).length < (l.filter p).length := by
  induction l with
  | nil => cases ha
  | cons b l ih =>
    have hle : ∀ l : List α, (l.filter q).length ≤ (l.filter p).length := by
      intro l
      induction l with
      | nil => simp
      | cons c l ih =>
        simp only [List.filter_cons]
        cases hc : q c with
        | true => simp [hpq c hc]; exact ih
        | false => cases p c <;> simp <;> omega
    simp only [List.filter_cons]
    rcases List.mem_cons.1 ha with rfl | ha
    · simp [hp, hq]
      have := hle l
      omega
    · have := ih ha
      cases hb : q b with
      | true => simp [hpq b hb]; exact this
      | false => cases p b <;> simp <;> omega

theorem left_or {n done i : Nat} (hi : i < n) (h : bit done i = false) : left n (done ||| 2 ^ i) < left n done := by
  unfold left
  refine filter_lt _ _ _ (fun j hj => ?_) (List.mem_range.2 hi) (by simp [h]) (by simp [bit_or_self])
  cases hb : bit done j with
  | false => rfl
  | true => rw [bit_or_of _ i j hb] at hj; cases hj
end Go.Proofs.Ytbibibpliahclaa.Cp
