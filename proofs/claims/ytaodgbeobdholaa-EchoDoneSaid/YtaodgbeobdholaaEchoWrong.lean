/-
  The walk through echo's wrong.
-/
import Derived.Test.YtaodgbeobdholaaEchoArr
import Derived.Deep.RegionHeld3
namespace Go.Proofs.Ytaodgbeobdholaa.Ec
open Go Go.RowKit Mem

def GoodL (n : Int) (l : Int × Int) : Prop := 0 ≤ l.1 ∧ 0 ≤ l.2 ∧ l.1 < n ∧ l.2 < n ∧ l.1 ≠ l.2
/-- no link of the first k stands twice -/
def OnceI (L : List (Int × Int)) (k : Nat) : Prop := ∀ i : Nat, i < k → ∀ l, L[i]? = some l → l ∉ L.take i ∧ (l.2, l.1) ∉ L.take i
structure OkL (n : Int) (L : List (Int × Int)) (start : Int) (m : Nat) : Prop where
  n1 : 1 ≤ n
  n6 : n ≤ 6
  l15 : L.length ≤ 15
  m60 : m ≤ 60
  good : ∀ l ∈ L, GoodL n l
  s0 : 0 ≤ start
  s1 : start < n
  once : OnceI L L.length
theorem good_snoc {n : Int} {L : List (Int × Int)} {k : Nat} {l : Int × Int} (h : ∀ l ∈ L.take k, GoodL n l) (hk : L[k]? = some l) (hl : GoodL n l) : ∀ l ∈ L.take (k + 1), GoodL n l := by
  have : L.take (k + 1) = L.take k ++ [l] := by rw [List.take_add_one, hk]; rfl
  rw [this]
  intro x hx
  rcases List.mem_append.1 hx with hx | hx
  · exact h x hx
  · simp at hx; subst hx; exact hl
theorem once_succ {L : List (Int × Int)} {k : Nat} {l : Int × Int} (h : OnceI L k) (hk : L[k]? = some l) (h1 : l ∉ L.take k) (h2 : (l.2, l.1) ∉ L.take k) : OnceI L (k + 1) := by
  intro i hi x hx
  by_cases e : i = k
  · subst e
    rw [hk] at hx
    cases hx
    exact ⟨h1, h2⟩
  · exact h i (by omega) x hx
/-- the answer says whether all is well -/
def Wr (n : Int) (L : List (Int × Int)) (start : Int) (m : Nat) (e : Ending) : Prop := ∃ r : Int, e = .returned (.int .i64 r) ∧ (r = 0 ↔ OkL n L start m) ∧ 0 ≤ r
theorem Wr.bad {n : Int} {L : List (Int × Int)} {start : Int} {m : Nat} {e : Ending} (r : Int) (h : e = .returned (.int .i64 r)) (hr : 0 < r) (hno : ¬ OkL n L start m) : Wr n L start m e := ⟨r, h, ⟨fun e => by omega, fun h => absurd h hno⟩, by omega⟩
theorem seen3 {W0 W w3 : World} {mb : Nat} {a b : Value} (hS : W.cell? ⟨mb, 0, none⟩ = some a ∧ W.cell? ⟨mb, 1, none⟩ = some b ∧ Below W0.heap.size W0 W) (hb : Below W.heap.size W w3) :
    w3.cell? ⟨mb, 0, none⟩ = some a ∧ w3.cell? ⟨mb, 1, none⟩ = some b ∧ Below W0.heap.size W0 w3 :=
  ⟨(hb.cell (p := ⟨mb, 0, none⟩) (World.block_lt_of_cell? W _ hS.1)).trans hS.1, (hb.cell (p := ⟨mb, 1, none⟩) (World.block_lt_of_cell? W _ hS.2.1)).trans hS.2.1, hS.2.2.trans (hb.mono hS.2.2.size)⟩

theorem drew3 {W0 W : World} {mb : Nat} {a b : Value} (hS : W.cell? ⟨mb, 0, none⟩ = some a ∧ W.cell? ⟨mb, 1, none⟩ = some b ∧ Below W0.heap.size W0 W) : W.drew.cell? ⟨mb, 0, none⟩ = some a ∧ W.drew.cell? ⟨mb, 1, none⟩ = some b ∧ Below W0.heap.size W0 W.drew := ⟨hS.1, hS.2.1, hS.2.2.drew⟩
theorem cont_at {ao : Option Addr} {k cap : Nat} {T : List (Int × Int)} (a b : Int) {W0 W : World} {r : Bool} (hd : decide ((a, b) ∈ T) = r) {mb : Nat} {u v : Value} (hT : T.length = k) (hl : LinksAt W0 ao T) (h60 : k ≤ 60) (hS : W.cell? ⟨mb, 0, none⟩ = some u ∧ W.cell? ⟨mb, 1, none⟩ = some v ∧ Below W0.heap.size W0 W) :
    Calls Try.prog 41 #[.slice ao k cap, .agg #[.int .i64 a, .int .i64 b]] W fun e w' => e = .returned (.bool r) ∧ Below W.heap.size W w' := by
  subst hT hd
  exact contains_any ao cap T a b W h60 (hl.later hS.2.2)

set_option maxHeartbeats 4000000 in
set_option maxRecDepth 100000 in
theorem wrong_any (n start : Int) (ao oo : Option Addr) (cap oc m : Nat) (L : List (Int × Int)) (w : World) (hcap : L.length ≤ cap) (hL : LinksAt w ao L) (hm : (m : Int) ≤ 9223372036854775807) :
    Calls Try.prog 26 #[.int .i64 n, .slice ao L.length cap, .int .i64 start, .slice oo m oc] w fun e w' => Wr n L start m e ∧ Below w.heap.size w w' := by
  have HL := Lib.hid hL
  clear hL
  by_cases k1 : n < 1
  · have HN : Hid (¬ OkL n L start m) := Lib.hid (fun h => by have := h.n1; have := h.n6; have := h.l15; have := h.m60; omega)
    go_enter Try.func26, Try.ntmps26
    go_wp2
    go_ret
    exact ⟨.bad 1 rfl (by omega) HN.out, Below.refl _ _⟩
  by_cases k2 : 6 < n
  · have HN : Hid (¬ OkL n L start m) := Lib.hid (fun h => by have := h.n1; have := h.n6; have := h.l15; have := h.m60; omega)
    go_enter Try.func26, Try.ntmps26
    go_wp2
    go_ret
    exact ⟨.bad 1 rfl (by omega) HN.out, Below.refl _ _⟩
  by_cases k3 : (15 : Int) < L.length
  · have HN : Hid (¬ OkL n L start m) := Lib.hid (fun h => by have := h.n1; have := h.n6; have := h.l15; have := h.m60; omega)
    go_enter Try.func26, Try.ntmps26
    go_wp2
    go_ret
    exact ⟨.bad 1 rfl (by omega) HN.out, Below.refl _ _⟩
  by_cases k4 : (60 : Int) < m
  · have HN : Hid (¬ OkL n L start m) := Lib.hid (fun h => by have := h.n1; have := h.n6; have := h.l15; have := h.m60; omega)
    go_enter Try.func26, Try.ntmps26
    go_wp2
    go_ret
    exact ⟨.bad 1 rfl (by omega) HN.out, Below.refl _ _⟩
  go_enter Try.func26, Try.ntmps26
  go_wp2
  go_loopw [31] (fun i wr => ∃ k : Nat, k ≤ L.length ∧ i = .int .i64 k ∧ (∀ l ∈ L.take k, GoodL n l) ∧ Below w.heap.size w wr) (fun i _ => L.length - (intOf i).toNat)
  case atStart => exact ⟨0, Nat.zero_le _, rfl, by simp, Below.refl _ _⟩
  case round =>
    obtain ⟨k, hk, rfl, hgood, hb⟩ := hrel
    have HG := Lib.hid hgood
    have HB := Lib.hid hb
    have hws := hb.size
    clear hgood hb
    by_cases hlt : k < L.length
    · obtain ⟨l, hlk⟩ : ∃ l, L[k]? = some l := ⟨L[k], List.getElem?_eq_getElem hlt⟩
      obtain ⟨x, y⟩ := l
      obtain ⟨bb, off, rfl, hc⟩ := (HL.out.later HB.out) (by intro e; rw [e] at hlt; simp at hlt)
      obtain ⟨r0, r1⟩ := hc k _ hlk
      have HK := Lib.hid hlk
      clear hc hlk
      rcases Int.lt_trichotomy x y with g | g | g
      · have g2 : ¬ y < x := by omega
        have g3 : ¬ x = y := by omega
        have g4 : (x == y) = false := by simpa using g3
        clear g3
        by_cases u1 : x < 0
        · have HN : Hid (¬ OkL n L start m) := Lib.hid (fun h => by have := h.good _ (List.mem_of_getElem? HK.out); unfold GoodL at this; simp only at this; omega)
          go_wp2
          go_ret
          exact ⟨.bad 2 rfl (by omega) HN.out, HB.out.alloc HB.out.size _⟩
        by_cases u2 : n ≤ y
        · have u3 : 0 ≤ x := by omega
          have HN : Hid (¬ OkL n L start m) := Lib.hid (fun h => by have := h.good _ (List.mem_of_getElem? HK.out); unfold GoodL at this; simp only at this; omega)
          go_wp2
          go_ret
          exact ⟨.bad 2 rfl (by omega) HN.out, HB.out.alloc HB.out.size _⟩
        go_wp2
        go_roundw
        case rel => exact ⟨k + 1, by omega, by go_num, good_snoc HG.out HK.out ⟨by simp only; omega, by simp only; omega, by simp only; omega, by simp only; omega, by simp only; omega⟩, HB.out.alloc HB.out.size _⟩
        case measure => simp [intOf]; omega
      · subst g
        by_cases u1 : x < 0
        · have HN : Hid (¬ OkL n L start m) := Lib.hid (fun h => by have := h.good _ (List.mem_of_getElem? HK.out); unfold GoodL at this; simp only at this; omega)
          go_wp2
          go_ret
          exact ⟨.bad 2 rfl (by omega) HN.out, HB.out.alloc HB.out.size _⟩
        by_cases u2 : n ≤ x
        · have HN : Hid (¬ OkL n L start m) := Lib.hid (fun h => by have := h.good _ (List.mem_of_getElem? HK.out); unfold GoodL at this; simp only at this; omega)
          go_wp2
          go_ret
          exact ⟨.bad 2 rfl (by omega) HN.out, HB.out.alloc HB.out.size _⟩
        have HN : Hid (¬ OkL n L start m) := Lib.hid (fun h => by have := h.good _ (List.mem_of_getElem? HK.out); unfold GoodL at this; simp only at this; omega)
        go_wp2
        go_ret
        exact ⟨.bad 2 rfl (by omega) HN.out, HB.out.alloc HB.out.size _⟩
      · have g2 : ¬ x < y := by omega
        have g3 : ¬ x = y := by omega
        have g4 : (x == y) = false := by simpa using g3
        clear g3
        by_cases u1 : y < 0
        · have HN : Hid (¬ OkL n L start m) := Lib.hid (fun h => by have := h.good _ (List.mem_of_getElem? HK.out); unfold GoodL at this; simp only at this; omega)
          go_wp2
          go_ret
          exact ⟨.bad 2 rfl (by omega) HN.out, HB.out.alloc HB.out.size _⟩
        by_cases u2 : n ≤ x
        · have u3 : 0 ≤ y := by omega
          have HN : Hid (¬ OkL n L start m) := Lib.hid (fun h => by have := h.good _ (List.mem_of_getElem? HK.out); unfold GoodL at this; simp only at this; omega)
          go_wp2
          go_ret
          exact ⟨.bad 2 rfl (by omega) HN.out, HB.out.alloc HB.out.size _⟩
        go_wp2
        go_roundw
        case rel => exact ⟨k + 1, by omega, by go_num, good_snoc HG.out HK.out ⟨by simp only; omega, by simp only; omega, by simp only; omega, by simp only; omega, by simp only; omega⟩, HB.out.alloc HB.out.size _⟩
        case measure => simp [intOf]; omega
    · obtain rfl : k = L.length := by omega
      rw [List.take_length] at HG
      by_cases s1 : start < 0
      · have HN : Hid (¬ OkL n L start m) := Lib.hid (fun h => by have := h.s0; omega)
        go_wp2
        go_ret
        exact ⟨.bad 2 rfl (by omega) HN.out, HB.out⟩
      by_cases s2 : n ≤ start
      · have HN : Hid (¬ OkL n L start m) := Lib.hid (fun h => by have := h.s1; omega)
        go_wp2
        go_ret
        exact ⟨.bad 2 rfl (by omega) HN.out, HB.out⟩
      go_wp2
      obtain ⟨wo, rfl⟩ : ∃ wo : World, wo = wr := ⟨_, rfl⟩
      clear hlt hk
      go_loopw [67] (fun i wr => ∃ k : Nat, k ≤ L.length ∧ i = .int .i64 k ∧ OnceI L k ∧ Below w.heap.size w wr) (fun i _ => L.length - (intOf i).toNat)
      case atStart => exact ⟨0, Nat.zero_le _, rfl, fun i hi => absurd hi (by omega), HB.out⟩
      case round =>
        clear HB hws
        clear wo
        obtain ⟨k, hk, rfl, honce, hb⟩ := hrel
        have HO := Lib.hid honce
        have HB := Lib.hid hb
        have hws := hb.size
        clear honce hb
        by_cases hlt : k < L.length
        · obtain ⟨l, hlk⟩ : ∃ l, L[k]? = some l := ⟨L[k], List.getElem?_eq_getElem hlt⟩
          obtain ⟨x, y⟩ := l
          have hla := HL.out.later HB.out
          obtain ⟨bb, off, rfl, hc⟩ := hla (by intro e; rw [e] at hlt; simp at hlt)
          obtain ⟨r0, r1⟩ := hc k _ hlk
          have HK := Lib.hid hlk
          have HLT := Lib.hid (hla.take k)
          have HTL : Hid ((L.take k).length = k) := Lib.hid (by rw [List.length_take]; omega)
          clear hc hlk hla
          have hkc : k ≤ cap := by omega
          go_wp2
          refine gen_world (P := Code.wp Try.prog _ _ _) (Q := fun W => (W.cell? ⟨wr.heap.size, 0, none⟩ = some (.int .i64 x) ∧ W.cell? ⟨wr.heap.size, 1, none⟩ = some (.int .i64 y)) ∧ Below wr.heap.size wr W ∧ Below w.heap.size w W) _ ?_ ?_
          · exact ⟨⟨(Blk.new wr [_, _] 38).cell rfl, (Blk.new wr [_, _] 38).cell rfl⟩, (Below.refl _ _).alloc (Nat.le_refl _) _, HB.out.alloc hws _⟩
          clear r0 r1
          intro W0 hI
          have HW0 := Lib.hid hI.2.2
          have HLT0 := Lib.hid (HLT.out.later hI.2.1)
          have i0 := hI.1.1
          have i1 := hI.1.2
          clear hI HLT HB
          generalize wr.heap.size = mb at i0 i1 ⊢
          clear hws
          clear wr
          by_cases q1 : (x, y) ∈ L.take k
          · have HN : Hid (¬ OkL n L start m) := Lib.hid (fun h => (h.once k hlt _ HK.out).1 q1)
            have hd1 : decide ((x, y) ∈ L.take k) = true := by simpa using q1
            clear q1
            refine wp_region_held_drew (S := (fun W => W.cell? ⟨mb, 0, none⟩ = some (.int .i64 x) ∧ W.cell? ⟨mb, 1, none⟩ = some (.int .i64 y) ∧ Below W0.heap.size W0 W)) (by kernel_rfl) ?_ (fun hHeld => ?_)
            · (first | exact ⟨i0, i1, (Below.refl _ _).drew⟩ | exact seen3 (by assumption) (by assumption) | exact drew3 (by assumption) | go_keep)
            refine wpAnyH_take (i := 0) (oi := { dst := some 72, op := Go.Op.move (Go.Operand.tmp 1), type := 30, pos := "echo.go:54", after := #[], guard := none }) (v := ?_) rfl (by kernel_rfl) (by kernel_rfl) (by kernel_rfl) (fun _ _ _ h => h) (Or.inl ⟨by rfl, ?_⟩) (by assumption) ?_
            rotate_left 1
            · intro w hSw; (try dsimp only at hSw); go_simp; try with_reducible rfl
            (try simp only [Act.put, List.setIfInBounds_toArray, List.set_cons_zero, List.set_cons_succ])
            refine wpAnyH_take (i := 1) (oi := { dst := some 73, op := Go.Op.move (Go.Operand.tmp 11), type := 3, pos := "echo.go:54", after := #[], guard := none }) (v := ?_) rfl (by kernel_rfl) (by kernel_rfl) (by kernel_rfl) (fun _ _ _ h => h) (Or.inl ⟨by rfl, ?_⟩) (by assumption) ?_
            rotate_left 1
            · intro w hSw; (try dsimp only at hSw); go_simp; try with_reducible rfl
            (try simp only [Act.put, List.setIfInBounds_toArray, List.set_cons_zero, List.set_cons_succ])
            refine wpAnyH_take (i := 2) (oi := { dst := some 74, op := Go.Op.slice 30 (Go.Operand.tmp 72) none (some (Go.Operand.tmp 73)) none, type := 30, pos := "echo.go:54", after := #[{ on := 0, ground := Go.Ground.data }, { on := 1, ground := Go.Ground.data }], guard := none }) (v := ?_) rfl (by kernel_rfl) (by kernel_rfl) (by kernel_rfl) (fun _ _ _ h => h) (Or.inl ⟨by rfl, ?_⟩) (by assumption) ?_
            rotate_left 1
            · intro w hSw; (try dsimp only at hSw); go_simp; try with_reducible rfl
            (try simp only [Act.put, List.setIfInBounds_toArray, List.set_cons_zero, List.set_cons_succ])
            refine wpAnyH_take (i := 3) (oi := { dst := some 75, op := Go.Op.load 38 (Go.Operand.tmp 12), type := 38, pos := "echo.go:54", after := #[], guard := none }) (v := ?_) rfl (by kernel_rfl) (by kernel_rfl) (by kernel_rfl) (fun _ _ _ h => h) (Or.inl ⟨by rfl, ?_⟩) (by assumption) ?_
            rotate_left 1
            · intro w hSw; (try dsimp only at hSw); go_simp; try with_reducible rfl
            (try simp only [Act.put, List.setIfInBounds_toArray, List.set_cons_zero, List.set_cons_succ])
            refine wpAnyH_ready (rs := [4]) (by kernel_rfl) (by simp) ?_
            refine AllReadyH.cons (o := { dst := some 76, op := Go.Op.call { callee := Go.Callee.value (Go.Operand.func 41), args := #[Go.Operand.tmp 74, Go.Operand.tmp 75], argTypes := #[30, 38] }, type := 4, pos := "echo.go:54", after := #[{ on := 2, ground := Go.Ground.data }, { on := 3, ground := Go.Ground.data }], guard := none }) rfl (fun K hK => ?_) ?_
            · (go_simp; (go_at_call 41; (with_reducible refine (cont_at x y hd1 HTL.out HLT0.out (by omega) (by assumption)).mono ?_); rintro e w3 ⟨rfl, hb3⟩))
              refine hK.out _ _ ?_ (fun hHeld => ?_)
              · (first | exact ⟨i0, i1, (Below.refl _ _).drew⟩ | exact seen3 (by assumption) (by assumption) | exact drew3 (by assumption) | go_keep)
              clear hK K
              (try simp only [Act.put, List.setIfInBounds_toArray, List.set_cons_zero, List.set_cons_succ])
              refine wpAnyH_take (i := 5) (oi := { dst := some 77, op := Go.Op.move (Go.Operand.tmp 76), type := 4, pos := "echo.go:54", after := #[{ on := 4, ground := Go.Ground.data }, { on := 4, ground := Go.Ground.chain }], guard := none }) (v := ?_) rfl (by kernel_rfl) (by kernel_rfl) (by kernel_rfl) (fun _ _ _ h => h) (Or.inl ⟨by rfl, ?_⟩) (by assumption) ?_
              rotate_left 1
              · intro w hSw; (try dsimp only at hSw); go_simp; try with_reducible rfl
              (try simp only [Act.put, List.setIfInBounds_toArray, List.set_cons_zero, List.set_cons_succ])
              refine wpAnyH_take (i := 6) (oi := { dst := some 78, op := Go.Op.move (Go.Operand.tmp 1), type := 30, pos := "echo.go:54", after := #[{ on := 5, ground := Go.Ground.guard }], guard := some (5, false) }) (v := undef) rfl (by kernel_rfl) (by kernel_rfl) (by kernel_rfl) (fun _ _ _ h => h) (Or.inr ⟨by rfl, rfl⟩) (by assumption) ?_
              (try simp only [Act.put, List.setIfInBounds_toArray, List.set_cons_zero, List.set_cons_succ])
              refine wpAnyH_take (i := 7) (oi := { dst := some 79, op := Go.Op.move (Go.Operand.tmp 11), type := 3, pos := "echo.go:54", after := #[{ on := 5, ground := Go.Ground.guard }], guard := some (5, false) }) (v := undef) rfl (by kernel_rfl) (by kernel_rfl) (by kernel_rfl) (fun _ _ _ h => h) (Or.inr ⟨by rfl, rfl⟩) (by assumption) ?_
              (try simp only [Act.put, List.setIfInBounds_toArray, List.set_cons_zero, List.set_cons_succ])
              refine wpAnyH_take (i := 8) (oi := { dst := some 80, op := Go.Op.slice 30 (Go.Operand.tmp 78) none (some (Go.Operand.tmp 79)) none, type := 30, pos := "echo.go:54", after := #[{ on := 6, ground := Go.Ground.data }, { on := 7, ground := Go.Ground.data }, { on := 5, ground := Go.Ground.guard }], guard := some (5, false) }) (v := undef) rfl (by kernel_rfl) (by kernel_rfl) (by kernel_rfl) (fun _ _ _ h => h) (Or.inr ⟨by rfl, rfl⟩) (by assumption) ?_
              (try simp only [Act.put, List.setIfInBounds_toArray, List.set_cons_zero, List.set_cons_succ])
              refine wpAnyH_take (i := 9) (oi := { dst := some 81, op := Go.Op.indexAddr 38 (Go.Operand.tmp 12) (Go.Operand.const (Go.Value.int Go.IntKind.i64 1)), type := 0, pos := "echo.go:54", after := #[{ on := 5, ground := Go.Ground.guard }], guard := some (5, false) }) (v := undef) rfl (by kernel_rfl) (by kernel_rfl) (by kernel_rfl) (fun _ _ _ h => h) (Or.inr ⟨by rfl, rfl⟩) (by assumption) ?_
              (try simp only [Act.put, List.setIfInBounds_toArray, List.set_cons_zero, List.set_cons_succ])
              refine wpAnyH_take (i := 10) (oi := { dst := some 82, op := Go.Op.load 3 (Go.Operand.tmp 81), type := 3, pos := "echo.go:54", after := #[{ on := 9, ground := Go.Ground.data }, { on := 5, ground := Go.Ground.guard }], guard := some (5, false) }) (v := undef) rfl (by kernel_rfl) (by kernel_rfl) (by kernel_rfl) (fun _ _ _ h => h) (Or.inr ⟨by rfl, rfl⟩) (by assumption) ?_
              (try simp only [Act.put, List.setIfInBounds_toArray, List.set_cons_zero, List.set_cons_succ])
              refine wpAnyH_take (i := 11) (oi := { dst := some 83, op := Go.Op.indexAddr 38 (Go.Operand.tmp 12) (Go.Operand.const (Go.Value.int Go.IntKind.i64 0)), type := 0, pos := "echo.go:54", after := #[{ on := 5, ground := Go.Ground.guard }], guard := some (5, false) }) (v := undef) rfl (by kernel_rfl) (by kernel_rfl) (by kernel_rfl) (fun _ _ _ h => h) (Or.inr ⟨by rfl, rfl⟩) (by assumption) ?_
              (try simp only [Act.put, List.setIfInBounds_toArray, List.set_cons_zero, List.set_cons_succ])
              refine wpAnyH_take (i := 12) (oi := { dst := some 84, op := Go.Op.load 3 (Go.Operand.tmp 83), type := 3, pos := "echo.go:54", after := #[{ on := 11, ground := Go.Ground.data }, { on := 5, ground := Go.Ground.guard }], guard := some (5, false) }) (v := undef) rfl (by kernel_rfl) (by kernel_rfl) (by kernel_rfl) (fun _ _ _ h => h) (Or.inr ⟨by rfl, rfl⟩) (by assumption) ?_
              (try simp only [Act.put, List.setIfInBounds_toArray, List.set_cons_zero, List.set_cons_succ])
              refine wpAnyH_take (i := 13) (oi := { dst := some 85, op := Go.Op.build 38 #[(0, Go.Operand.tmp 82), (1, Go.Operand.tmp 84)], type := 38, pos := "echo.go:54", after := #[{ on := 10, ground := Go.Ground.data }, { on := 12, ground := Go.Ground.data }, { on := 5, ground := Go.Ground.guard }], guard := some (5, false) }) (v := undef) rfl (by kernel_rfl) (by kernel_rfl) (by kernel_rfl) (fun _ _ _ h => h) (Or.inr ⟨by rfl, rfl⟩) (by assumption) ?_
              (try simp only [Act.put, List.setIfInBounds_toArray, List.set_cons_zero, List.set_cons_succ])
              refine wpAnyH_take (i := 14) (oi := { dst := some 86, op := Go.Op.call { callee := Go.Callee.value (Go.Operand.func 41), args := #[Go.Operand.tmp 80, Go.Operand.tmp 85], argTypes := #[30, 38] }, type := 4, pos := "echo.go:54", after := #[{ on := 8, ground := Go.Ground.data }, { on := 13, ground := Go.Ground.data }, { on := 5, ground := Go.Ground.chain }, { on := 5, ground := Go.Ground.guard }], guard := some (5, false) }) (v := undef) rfl (by kernel_rfl) (by kernel_rfl) (by kernel_rfl) (fun _ _ _ h => h) (Or.inr ⟨by rfl, rfl⟩) (by assumption) ?_
              (try simp only [Act.put, List.setIfInBounds_toArray, List.set_cons_zero, List.set_cons_succ])
              refine wpAnyH_take (i := 15) (oi := { dst := some 87, op := Go.Op.pick (Go.Operand.tmp 77) (Go.Operand.const (Go.Value.bool true)) (Go.Operand.tmp 86), type := 4, pos := "echo.go:54", after := #[{ on := 5, ground := Go.Ground.data }, { on := 14, ground := Go.Ground.data }], guard := none }) (v := ?_) rfl (by kernel_rfl) (by kernel_rfl) (by kernel_rfl) (fun _ _ _ h => h) (Or.inl ⟨by rfl, ?_⟩) (by assumption) ?_
              rotate_left 1
              · intro w hSw; (try dsimp only at hSw); go_simp; try with_reducible rfl
              (try simp only [Act.put, List.setIfInBounds_toArray, List.set_cons_zero, List.set_cons_succ])
              refine wpAnyH_done (by kernel_rfl) ?_ _
              go_wp2
              go_ret
              exact ⟨.bad 3 rfl (by omega) HN.out, HW0.out.trans ((by assumption : _ ∧ _ ∧ Below W0.heap.size W0 _).2.2.mono HW0.out.size)⟩
            exact AllReadyH.nil
          · have hd1 : decide ((x, y) ∈ L.take k) = false := by simpa using q1
            have HQ1 := Lib.hid q1
            clear q1
            by_cases q2 : (y, x) ∈ L.take k
            · have HN : Hid (¬ OkL n L start m) := Lib.hid (fun h => (h.once k hlt _ HK.out).2 q2)
              have hd2 : decide ((y, x) ∈ L.take k) = true := by simpa using q2
              clear q2
              first | (go_region_held3 (fun W => W.cell? ⟨mb, 0, none⟩ = some (.int .i64 x) ∧ W.cell? ⟨mb, 1, none⟩ = some (.int .i64 y) ∧ Below W0.heap.size W0 W)
                (first | exact ⟨i0, i1, (Below.refl _ _).drew⟩ | exact seen3 (by assumption) (by assumption) | exact drew3 (by assumption) | go_keep)
                (first | (go_at_call 41; (with_reducible refine (cont_at x y hd1 HTL.out HLT0.out (by omega) (by assumption)).mono ?_); rintro e w3 ⟨rfl, hb3⟩) | (go_at_call 41; (with_reducible refine (cont_at y x hd2 HTL.out HLT0.out (by omega) (by assumption)).mono ?_); rintro e w3 ⟨rfl, hb3⟩))) | fail
              go_wp2
              go_ret
              exact ⟨.bad 3 rfl (by omega) HN.out, HW0.out.trans ((by assumption : _ ∧ _ ∧ Below W0.heap.size W0 _).2.2.mono HW0.out.size)⟩
            · have hd2 : decide ((y, x) ∈ L.take k) = false := by simpa using q2
              have HQ2 := Lib.hid q2
              clear q2
              first | (go_region_held3 (fun W => W.cell? ⟨mb, 0, none⟩ = some (.int .i64 x) ∧ W.cell? ⟨mb, 1, none⟩ = some (.int .i64 y) ∧ Below W0.heap.size W0 W)
                (first | exact ⟨i0, i1, (Below.refl _ _).drew⟩ | exact seen3 (by assumption) (by assumption) | exact drew3 (by assumption) | go_keep)
                (first | (go_at_call 41; (with_reducible refine (cont_at x y hd1 HTL.out HLT0.out (by omega) (by assumption)).mono ?_); rintro e w3 ⟨rfl, hb3⟩) | (go_at_call 41; (with_reducible refine (cont_at y x hd2 HTL.out HLT0.out (by omega) (by assumption)).mono ?_); rintro e w3 ⟨rfl, hb3⟩))) | fail
              go_wp2
              go_roundw
              case rel => exact ⟨k + 1, by omega, by go_num, once_succ HO.out HK.out HQ1.out HQ2.out, HW0.out.trans ((by assumption : _ ∧ _ ∧ Below W0.heap.size W0 _).2.2.mono HW0.out.size)⟩
              case measure => simp [intOf]; omega
        · obtain rfl : k = L.length := by omega
          go_wp2
          go_ret
          exact ⟨⟨0, rfl, ⟨fun _ => ⟨by omega, by omega, by omega, by omega, HG.out, by omega, by omega, HO.out⟩, fun _ => rfl⟩, by omega⟩, HB.out⟩
end Go.Proofs.Ytaodgbeobdholaa.Ec
