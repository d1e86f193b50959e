/-
  The walks through the answers' own looks at links: LinksCheck, Twice, inside, Bit, linked, joined.
-/
import Derived.Test.YtaodgbeobdholaaEchoWrong
import Derived.Test.YtaodgbeobdholaaPast
namespace Go.Proofs.Ytaodgbeobdholaa.Ec
open Go Go.RowKit Mem

/-- LinksCheck's answer -/
def LkEnd (n : Int) (L : List (Int × Int)) (e : Ending) : Prop := ∃ r : Int, e = .returned (.int .i64 r) ∧ ((r == 0) = true ↔ 1 ≤ n ∧ n ≤ 6 ∧ L.length ≤ 15 ∧ ∀ l ∈ L, GoodL n l)
theorem LkEnd.bad {n : Int} {L : List (Int × Int)} {e : Ending} (r : Int) (h : e = .returned (.int .i64 r)) (hr : 0 < r) (hno : ¬ (1 ≤ n ∧ n ≤ 6 ∧ L.length ≤ 15 ∧ ∀ l ∈ L, GoodL n l)) : LkEnd n L e :=
  ⟨r, h, fun e => by simp at e; omega, fun h => absurd h hno⟩

set_option maxHeartbeats 4000000 in
set_option maxRecDepth 100000 in
theorem links_any (n : Int) (ao : Option Addr) (cap : Nat) (L : List (Int × Int)) (w : World) (hL : LinksAt w ao L) :
    Calls Try.prog 32 #[.int .i64 n, .slice ao L.length cap] w fun e w' => LkEnd n L e ∧ Below w.heap.size w w' := by
  have HL := Lib.hid hL
  clear hL
  by_cases k1 : n < 1
  · have HN : Hid (¬ (1 ≤ n ∧ n ≤ 6 ∧ L.length ≤ 15 ∧ ∀ l ∈ L, GoodL n l)) := Lib.hid (fun h => by have := h.1; have := h.2.1; have := h.2.2.1; omega)
    go_enter Try.func32, Try.ntmps32
    go_wp2
    go_ret
    exact ⟨.bad 1 rfl (by omega) HN.out, Below.refl _ _⟩
  by_cases k2 : 6 < n
  · have HN : Hid (¬ (1 ≤ n ∧ n ≤ 6 ∧ L.length ≤ 15 ∧ ∀ l ∈ L, GoodL n l)) := Lib.hid (fun h => by have := h.1; have := h.2.1; have := h.2.2.1; omega)
    go_enter Try.func32, Try.ntmps32
    go_wp2
    go_ret
    exact ⟨.bad 1 rfl (by omega) HN.out, Below.refl _ _⟩
  by_cases k3 : (15 : Int) < L.length
  · have HN : Hid (¬ (1 ≤ n ∧ n ≤ 6 ∧ L.length ≤ 15 ∧ ∀ l ∈ L, GoodL n l)) := Lib.hid (fun h => by have := h.1; have := h.2.1; have := h.2.2.1; omega)
    go_enter Try.func32, Try.ntmps32
    go_wp2
    go_ret
    exact ⟨.bad 1 rfl (by omega) HN.out, Below.refl _ _⟩
  go_enter Try.func32, Try.ntmps32
  go_wp2
  go_loopw [20] (fun i wr => ∃ k : Nat, k ≤ L.length ∧ i = .int .i64 k ∧ (∀ l ∈ L.take k, GoodL n l) ∧ Below w.heap.size w wr) (fun i _ => L.length - (intOf i).toNat)
  case atStart => exact ⟨0, Nat.zero_le _, rfl, by simp, Below.refl _ _⟩
  case round =>
    obtain ⟨k, hk, rfl, hgood, hb⟩ := hrel
    have HG := Lib.hid hgood
    have HB := Lib.hid hb
    have hws := hb.size
    clear hgood hb
    by_cases hlt : k < L.length
    · obtain ⟨l, hlk⟩ : ∃ l, L[k]? = some l := ⟨L[k], List.getElem?_eq_getElem hlt⟩
      obtain ⟨x, y⟩ := l
      obtain ⟨bb, off, rfl, hc⟩ := (HL.out.later HB.out) (by intro e; rw [e] at hlt; simp at hlt)
      obtain ⟨r0, r1⟩ := hc k _ hlk
      have HK := Lib.hid hlk
      clear hc hlk
      by_cases u1 : x < 0
      · have HN : Hid (¬ (1 ≤ n ∧ n ≤ 6 ∧ L.length ≤ 15 ∧ ∀ l ∈ L, GoodL n l)) := Lib.hid (fun h => by have := h.2.2.2 _ (List.mem_of_getElem? HK.out); unfold GoodL at this; simp only at this; omega)
        go_wp2
        go_ret
        exact ⟨.bad 2 rfl (by omega) HN.out, HB.out.alloc HB.out.size _⟩
      by_cases u2 : n ≤ x
      · have HN : Hid (¬ (1 ≤ n ∧ n ≤ 6 ∧ L.length ≤ 15 ∧ ∀ l ∈ L, GoodL n l)) := Lib.hid (fun h => by have := h.2.2.2 _ (List.mem_of_getElem? HK.out); unfold GoodL at this; simp only at this; omega)
        go_wp2
        go_ret
        exact ⟨.bad 2 rfl (by omega) HN.out, HB.out.alloc HB.out.size _⟩
      by_cases u3 : y < 0
      · have HN : Hid (¬ (1 ≤ n ∧ n ≤ 6 ∧ L.length ≤ 15 ∧ ∀ l ∈ L, GoodL n l)) := Lib.hid (fun h => by have := h.2.2.2 _ (List.mem_of_getElem? HK.out); unfold GoodL at this; simp only at this; omega)
        go_wp2
        go_ret
        exact ⟨.bad 2 rfl (by omega) HN.out, HB.out.alloc HB.out.size _⟩
      by_cases u4 : n ≤ y
      · have HN : Hid (¬ (1 ≤ n ∧ n ≤ 6 ∧ L.length ≤ 15 ∧ ∀ l ∈ L, GoodL n l)) := Lib.hid (fun h => by have := h.2.2.2 _ (List.mem_of_getElem? HK.out); unfold GoodL at this; simp only at this; omega)
        go_wp2
        go_ret
        exact ⟨.bad 2 rfl (by omega) HN.out, HB.out.alloc HB.out.size _⟩
      by_cases u5 : x = y
      · have u6 : (x == y) = true := by simpa using u5
        have U5 := Lib.hid u5
        clear u5
        have HN : Hid (¬ (1 ≤ n ∧ n ≤ 6 ∧ L.length ≤ 15 ∧ ∀ l ∈ L, GoodL n l)) := Lib.hid (fun h => by have := h.2.2.2 _ (List.mem_of_getElem? HK.out); unfold GoodL at this; simp only at this; have := U5.out; omega)
        go_wp2
        go_ret
        exact ⟨.bad 2 rfl (by omega) HN.out, HB.out.alloc HB.out.size _⟩
      · have u6 : (x == y) = false := by simpa using u5
        have U5 := Lib.hid u5
        clear u5
        go_wp2
        go_roundw
        case rel => exact ⟨k + 1, by omega, by go_num, good_snoc HG.out HK.out ⟨by simp only; omega, by simp only; omega, by simp only; omega, by simp only; omega, U5.out⟩, HB.out.alloc HB.out.size _⟩
        case measure => simp [intOf]; omega
    · obtain rfl : k = L.length := by omega
      rw [List.take_length] at HG
      go_wp2
      go_ret
      exact ⟨⟨0, rfl, fun _ => ⟨by omega, by omega, by omega, HG.out⟩, fun _ => rfl⟩, HB.out⟩

/-- Twice's answer -/
def TwEnd (L : List (Int × Int)) (e : Ending) : Prop := ∃ b, e = .returned (.bool b) ∧ (b = true ↔ ¬ OnceI L L.length)

set_option maxHeartbeats 8000000 in
set_option maxRecDepth 100000 in
theorem twice_any (ao : Option Addr) (cap : Nat) (L : List (Int × Int)) (hcap : L.length ≤ cap) (h15 : L.length ≤ 15) (w : World) (hL : LinksAt w ao L) :
    Calls Try.prog 33 #[.slice ao L.length cap] w fun e w' => TwEnd L e ∧ Below w.heap.size w w' := by
  have HL := Lib.hid hL
  clear hL
  go_enter Try.func33, Try.ntmps33
  go_wp2
  go_loopw [9] (fun i wr => ∃ k : Nat, k ≤ L.length ∧ i = .int .i64 k ∧ OnceI L k ∧ Below w.heap.size w wr) (fun i _ => L.length - (intOf i).toNat)
  case atStart => exact ⟨0, Nat.zero_le _, rfl, fun i hi => absurd hi (by omega), Below.refl _ _⟩
  case round =>
    obtain ⟨k, hk, rfl, honce, hb⟩ := hrel
    have HO := Lib.hid honce
    have HB := Lib.hid hb
    have hws := hb.size
    clear honce hb
    by_cases hlt : k < L.length
    · obtain ⟨l, hlk⟩ : ∃ l, L[k]? = some l := ⟨L[k], List.getElem?_eq_getElem hlt⟩
      obtain ⟨x, y⟩ := l
      obtain ⟨bb, off, rfl, hc⟩ := (HL.out.later HB.out) (by intro e; rw [e] at hlt; simp at hlt)
      obtain ⟨r0, r1⟩ := hc k _ hlk
      have HK := Lib.hid hlk
      have hkc : k ≤ cap := by omega
      have HCC := Lib.hid hc
      clear hc hlk
      go_wp2
      refine gen_world (P := Code.wp Try.prog _ _ _) (Q := fun W => Blk W wr.heap.size [.int .i64 x, .int .i64 y] 38 ∧ Below wr.heap.size wr W) _ ⟨Blk.new wr [_, _] 38, (Below.refl _ _).alloc (Nat.le_refl _) _⟩ ?_
      intro wo hI
      obtain ⟨mb, hmb⟩ : ∃ mb, mb = wr.heap.size := ⟨_, rfl⟩
      have HWO : Hid (Below w.heap.size w wo) := Lib.hid (HB.out.trans (hI.2.mono hws))
      have HLW : Hid (∀ j l, L[j]? = some l → wo.cell? ⟨bb, off + j * 2, none⟩ = some (.int .i64 l.1) ∧ wo.cell? ⟨bb, off + j * 2 + 1, none⟩ = some (.int .i64 l.2)) := Lib.hid (fun j l hj => by
        obtain ⟨c0, c1⟩ := HCC.out j l hj
        have hl := World.block_lt_of_cell? wr _ c0
        exact ⟨(hI.2.cell (p := ⟨bb, off + j * 2, none⟩) hl).trans c0, (hI.2.cell (p := ⟨bb, off + j * 2 + 1, none⟩) hl).trans c1⟩)
      rw [← hmb] at hI ⊢
      have HM := Lib.hid hI.1
      clear hI hmb r0 r1 HCC HB hws
      clear wr
      go_loopw [18] (fun i wr => ∃ j : Nat, j ≤ k ∧ i = .int .i64 j ∧ ((x, y) ∉ L.take j ∧ (y, x) ∉ L.take j) ∧ Below wo.heap.size wo wr) (fun i _ => k - (intOf i).toNat)
      case atStart => exact ⟨0, Nat.zero_le _, rfl, by simp, Below.refl _ _⟩
      case round =>
        obtain ⟨j, hj, rfl, hno, hb⟩ := hrel
        have HNO := Lib.hid hno
        have HB := Lib.hid hb
        have hws := hb.size
        have hm := HM.out.below hb HM.out.lt
        have m0 := hm.cell (o := 0) rfl
        have m1 := hm.cell (o := 1) rfl
        have hml := hm.lt
        clear hno hb hm
        by_cases hjk : j < k
        · obtain ⟨l, hlj⟩ : ∃ l, L[j]? = some l := ⟨L[j]'(by omega), List.getElem?_eq_getElem (by omega)⟩
          obtain ⟨u, v⟩ := l
          obtain ⟨q0, q1⟩ := HLW.out j _ hlj
          have hbl := World.block_lt_of_cell? wo _ q0
          have r0 := (HB.out.cell (p := ⟨bb, off + j * 2, none⟩) hbl).trans q0
          have r1 := (HB.out.cell (p := ⟨bb, off + j * 2 + 1, none⟩) hbl).trans q1
          have HJ := Lib.hid hlj
          have hnext : Hid (¬ (x = u ∧ y = v) → ¬ (x = v ∧ y = u) → (x, y) ∉ L.take (j + 1) ∧ (y, x) ∉ L.take (j + 1)) := Lib.hid (fun h1 h2 => by
            have e : L.take (j + 1) = L.take j ++ [(u, v)] := by rw [List.take_add_one, HJ.out]; rfl
            rw [e]
            refine ⟨fun hm => ?_, fun hm => ?_⟩
            · rcases List.mem_append.1 hm with hm | hm
              · exact HNO.out.1 hm
              · simp at hm; exact h1 hm
            · rcases List.mem_append.1 hm with hm | hm
              · exact HNO.out.2 hm
              · simp at hm; exact h2 ⟨hm.2, hm.1⟩)
          have hbad : Hid ((x = u ∧ y = v) ∨ (x = v ∧ y = u) → ¬ OnceI L L.length) := Lib.hid (fun h h9 => by
            obtain ⟨h1, h2⟩ := h9 k hlt _ HK.out
            have hm : (u, v) ∈ L.take k := by
              rw [List.mem_take_iff_getElem]
              exact ⟨j, by omega, (List.getElem?_eq_some_iff.1 HJ.out).2⟩
            rcases h with ⟨rfl, rfl⟩ | ⟨rfl, rfl⟩
            · exact h1 hm
            · exact h2 hm)
          clear q0 q1 hlj
          obtain ⟨b1, hb1⟩ : ∃ b, (x == u) = b := ⟨_, rfl⟩
          obtain ⟨b2, hb2⟩ : ∃ b, (y == v) = b := ⟨_, rfl⟩
          obtain ⟨b3, hb3⟩ : ∃ b, (x == v) = b := ⟨_, rfl⟩
          obtain ⟨b4, hb4⟩ : ∃ b, (y == u) = b := ⟨_, rfl⟩
          cases b1
          · cases b3
            · have HX := Lib.hid (hnext.out (by simp at hb1 hb2 hb3 hb4; omega) (by simp at hb1 hb2 hb3 hb4; omega))
              go_wp2
              go_roundw
              case rel => exact ⟨j + 1, by omega, by go_num, HX.out, HB.out.alloc hws _⟩
              case measure => simp [intOf]; omega
            · cases b4
              · have HX := Lib.hid (hnext.out (by simp at hb1 hb2 hb3 hb4; omega) (by simp at hb1 hb2 hb3 hb4; omega))
                go_wp2
                go_roundw
                case rel => exact ⟨j + 1, by omega, by go_num, HX.out, HB.out.alloc hws _⟩
                case measure => simp [intOf]; omega
              · have HX : Hid (¬ OnceI L L.length) := Lib.hid (hbad.out (by simp at hb1 hb2 hb3 hb4; omega))
                go_wp2
                go_ret
                exact ⟨⟨true, rfl, fun _ => HX.out, fun _ => rfl⟩, HWO.out.trans ((HB.out.alloc hws _).mono HWO.out.size)⟩
          · cases b2
            · cases b3
              · have HX := Lib.hid (hnext.out (by simp at hb1 hb2 hb3 hb4; omega) (by simp at hb1 hb2 hb3 hb4; omega))
                go_wp2
                go_roundw
                case rel => exact ⟨j + 1, by omega, by go_num, HX.out, HB.out.alloc hws _⟩
                case measure => simp [intOf]; omega
              · cases b4
                · have HX := Lib.hid (hnext.out (by simp at hb1 hb2 hb3 hb4; omega) (by simp at hb1 hb2 hb3 hb4; omega))
                  go_wp2
                  go_roundw
                  case rel => exact ⟨j + 1, by omega, by go_num, HX.out, HB.out.alloc hws _⟩
                  case measure => simp [intOf]; omega
                · have HX : Hid (¬ OnceI L L.length) := Lib.hid (hbad.out (by simp at hb1 hb2 hb3 hb4; omega))
                  go_wp2
                  go_ret
                  exact ⟨⟨true, rfl, fun _ => HX.out, fun _ => rfl⟩, HWO.out.trans ((HB.out.alloc hws _).mono HWO.out.size)⟩
            · have HX : Hid (¬ OnceI L L.length) := Lib.hid (hbad.out (by simp at hb1 hb2 hb3 hb4; omega))
              go_wp2
              go_ret
              exact ⟨⟨true, rfl, fun _ => HX.out, fun _ => rfl⟩, HWO.out.trans ((HB.out.alloc hws _).mono HWO.out.size)⟩
        · obtain rfl : j = k := by omega
          have HON := Lib.hid (once_succ HO.out HK.out HNO.out.1 HNO.out.2)
          clear m0 m1 hml
          go_wp2
          go_roundw
          case rel => exact ⟨j + 1, by omega, by go_num, HON.out, HWO.out.trans (HB.out.mono HWO.out.size)⟩
          case measure => simp [intOf]; omega
    · obtain rfl : k = L.length := by omega
      go_wp2
      go_ret
      exact ⟨⟨false, rfl, fun h => (by cases h), fun h => absurd HO.out h⟩, HB.out⟩

set_option maxHeartbeats 2000000 in
theorem inside_one (n x : Int) (b : Nat) (w : World) (hc : w.cell? ⟨b, 0, none⟩ = some (.int .i64 x)) :
    Calls Try.prog 13 #[.int .i64 n, .slice (some ⟨b, 0, none⟩) 1 1] w fun e w' => e = .returned (.bool (decide (0 ≤ x ∧ x < n))) ∧ w' = w := by
  by_cases h0 : x < 0
  · have HR : Hid (decide (0 ≤ x ∧ x < n) = false) := Lib.hid (by simp; omega)
    go_enter Try.func13, Try.ntmps13
    go_wp2
    refine wp_loop_rounds 2 ?_
    rw [rounds_succ]
    go_wp2
    go_ret
    exact ⟨by rw [HR.out]; rfl, rfl⟩
  by_cases h1 : n ≤ x
  · have HR : Hid (decide (0 ≤ x ∧ x < n) = false) := Lib.hid (by simp; omega)
    go_enter Try.func13, Try.ntmps13
    go_wp2
    refine wp_loop_rounds 2 ?_
    rw [rounds_succ]
    go_wp2
    go_ret
    exact ⟨by rw [HR.out]; rfl, rfl⟩
  have HR : Hid (decide (0 ≤ x ∧ x < n) = true) := Lib.hid (by simp; omega)
  go_enter Try.func13, Try.ntmps13
  go_wp2
  refine wp_loop_rounds 2 ?_
  rw [rounds_succ]
  go_wp2
  rw [rounds_succ]
  go_wp2
  go_ret
  exact ⟨by rw [HR.out]; rfl, rfl⟩
end Go.Proofs.Ytaodgbeobdholaa.Ec
