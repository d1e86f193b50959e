/-
  The sort of the row of all indices leaves an order.
-/
import Derived.Test.YtaodgbeobdholaaPerm
import Derived.Shelf.SlSortCmp.NoneTotal
import Derived.Lib.OwnBridge
namespace Go.Proofs.Ytaodgbeobdholaa.Rn
open Go Go.RowKit Mem Go.Shelf Go.Lib Go.Sort

/-- what the sort finds: the two variables, the ticks, the events -/
def OrdW (lb tb T : Nat) (ao : Option Addr) (cap : Nat) (L : List Ev) (w0 W : World) : Prop :=
  W.cell? ⟨tb, 0, none⟩ = some (.slice (some ⟨T, 0, none⟩) L.length L.length) ∧ W.cell? ⟨lb, 0, none⟩ = some (.slice ao L.length cap) ∧ Blk W T (rowOf L.length (outs (ticks L))) 3 ∧ EvsAt W ao L ∧ Below w0.heap.size w0 W ∧ lb < W.heap.size ∧ tb < W.heap.size ∧ (w0.heap.size ≤ lb)
def nums (k : Nat) : List Value := (List.range k).map fun j => .int .i64 ((j : Nat) : Int)
theorem nums_succ (k : Nat) : nums (k + 1) = nums k ++ [.int .i64 (k : Nat)] := by unfold nums; rw [List.range_succ, List.map_append]; rfl
theorem OrdW.later {lb tb T : Nat} {ao : Option Addr} {cap : Nat} {L : List Ev} {w0 W W' : World} (h : OrdW lb tb T ao cap L w0 W) (hb : Below W.heap.size W W') : OrdW lb tb T ao cap L w0 W' := by
  obtain ⟨h1, h2, h3, h4, h5, h6, h7, h8⟩ := h
  have := hb.size
  exact ⟨(hb.cell (p := ⟨_, 0, none⟩) h7).trans h1, (hb.cell (p := ⟨_, 0, none⟩) h6).trans h2, h3.below hb h3.lt, h4.later hb, h5.trans (hb.mono h5.size), by omega, by omega, h8⟩

theorem sortWorld_below {α : Type} [Inhabited α] (enc : α → Value) (w : World) (blk off m : Nat) (dk : Array α) (os : Array Obj) {B : Nat} (hB : B ≤ blk) (hBw : B ≤ w.heap.size) : Below B w (sortWorld enc w blk off m dk os) :=
  ⟨rfl, rfl, rfl, by simp [sortWorld, grow, putRow, mapBlock, Sort.ahead], fun k hk => sortWorld_block enc w blk off m dk os (by omega) (by omega)⟩

theorem sort_all {lb tb T base : Nat} {ao : Option Addr} {cap : Nat} {L : List Ev} {w0 W : World} {v : Value} (hl : L.length ≤ 30) (hW : OrdW lb tb T ao cap L w0 W) (hb1 : tb < base) (hb2 : lb < base) (hb3 : T < base) (hb4 : ∀ a, ao = some a → L ≠ [] → a.block < base)
    (hown : W.ownsRow base 3 1 v L.length (nums L.length)) (hbW : base ≤ W.heap.size) :
    ∃ oa oc, v = .slice oa L.length oc ∧ Calls Try.prog 20 #[v, .func (.func 21) #[] #[.pointer (some ⟨tb, 0, none⟩), .pointer (some ⟨lb, 0, none⟩)]] W fun e w' => e = .returned (.tuple #[]) ∧ ∃ O : List Nat, O.length = L.length ∧ GoodOrder L O ∧ OrdAt w' oa O ∧ Below base W w' := by
  obtain ⟨h1, h2, h3, h4, h5, h6, h7, h8⟩ := hW
  by_cases hL : L = []
  · subst hL
    have hv : ∃ oa oc, v = .slice oa 0 oc := by
      rcases hown.2 with ⟨h, _⟩ | ⟨g, c, cur, h, _⟩
      · exact ⟨_, _, h⟩
      · exact ⟨_, _, h⟩
    obtain ⟨oa, oc, rfl⟩ := hv
    refine ⟨oa, oc, rfl, (AnyF.slices_SortFunc_none (P := Try.prog) { Try.sortF with } oa oc _ W).mono ?_⟩
    rintro e w' ⟨rfl, rfl⟩
    exact ⟨rfl, [], rfl, ⟨rfl, fun k i h => by simp at h⟩, fun h => absurd rfl h, Below.refl _ _⟩
  · obtain ⟨M, hM⟩ : ∃ M, L.length = M + 1 := by
      have : L.length ≠ 0 := by simpa using hL
      exact ⟨L.length - 1, by omega⟩
    have hnn : v ≠ .slice none 0 0 := by
      intro e
      rcases hown.2 with ⟨_, h⟩ | ⟨g, c, cur, h, _⟩
      · omega
      · rw [e] at h; cases h
    have hen : nums L.length = (List.ofFn (n := M + 1) id).map (encN M) := by
      unfold nums encN
      rw [hM]
      apply List.ext_getElem
      · simp
      · intro i h1 h2
        rw [List.getElem_map, List.getElem_map, List.getElem_range, List.getElem_ofFn]
        rfl
    rw [hen] at hown
    obtain ⟨g, c, rfl, hg, hgl, hnc, hcm, hlen, hH⟩ := holds_of_ownsRow hown hnn
    rw [hM] at h1 h2 ⊢
    refine ⟨_, _, rfl, ?_⟩
    obtain ⟨b, off, hao, hcells⟩ := h4 hL
    subst hao
    have hbb := hb4 _ rfl hL
    simp at hbb
    have hd : (List.ofFn (n := M + 1) id).toArray = Array.ofFn id := by
      apply Array.ext
      · simp
      · intro i h1 h2
        rw [List.getElem_toArray, List.getElem_ofFn, Array.getElem_ofFn]
    rw [hd] at hH
    have hs := sort_any (M := M) (cap := cap) (tb := tb) (lb := lb) (T := T) (eb := b) (off := off) (blk := g) (oc := c) (tk := fun i => (ticks L).getD i 0) (pk := fun i => (L.getD i ⟨0, 0, 0⟩).proc) (w := W) (by omega) (by omega) (by omega) (by omega) (by omega) h1 h2
      (fun i hi => by have := h3.cell (rowOf_get (g := outs (ticks L)) (show i < L.length by omega)); simpa [outs] using this)
      (fun i hi => by
        have hi' : i < L.length := by omega
        have := (hcells i L[i] (List.getElem?_eq_getElem hi')).1
        rw [this]
        simp [List.getD, hi'])
      (Array.ofFn id) (by simp) hH hgl
    refine hs.mono ?_
    rintro e w' ⟨rfl, d', n, os, hp, hsrt, rfl⟩
    have hsz : d'.size = M + 1 := by have := hp.1; simp at this; omega
    refine ⟨rfl, d'.toList.map (·.val), by simp [hsz], perm_good hM (by omega) rfl hp hsrt, ?_, sortWorld_below _ _ _ _ _ _ _ hg hbW⟩
    intro _
    refine ⟨g, 0, rfl, fun k i hk => ?_⟩
    rw [List.getElem?_map] at hk
    obtain ⟨x, hx, rfl⟩ := Option.map_eq_some_iff.1 hk
    have hkl := (List.getElem?_eq_some_iff.1 hx).1
    have hk2 : k < d'.size := by simpa using hkl
    have h0 := holds_grow (encN M) (putRow (encN M) (Sort.ahead W n) g 0 d') os g 0 d' (by simpa [putRow, mapBlock, Sort.ahead] using hgl) (holds_putRow (encN M) (Sort.ahead W n) g 0 (Array.ofFn id) d' (by simpa [Holds, Sort.ahead, World.cell?, World.frozen?] using hH) (by simp [hsz]))
    have h1 := (h0 k hk2).1
    have hx' : d'[k]! = x := by
      rw [getElem!_pos d' k hk2]
      have := (List.getElem?_eq_some_iff.1 hx).2
      simpa using this
    rw [hx'] at h1
    exact h1
end Go.Proofs.Ytaodgbeobdholaa.Rn
