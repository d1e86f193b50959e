/-
  The walk through (*finder).find.
-/
import Derived.Test.YtbibibpliahclaaBadMap
import Derived.Test.YtbibibpliahclaaPhase
import Derived.Laws.AppendOwnNone
namespace Go.Proofs.Ytbibibpliahclaa.Cp
open Go Go.RowKit Mem
open Go.ChangeMaps (setBlock)

/-- of what was there the map alone may have turned -/
structure FrM (mb : Nat) (w w' : World) : Prop where
  os : w'.os = w.os
  tape : w'.tape = w.tape
  output : w'.output = w.output
  size : w.heap.size ≤ w'.heap.size
  block : ∀ k, k < w.heap.size → k ≠ mb → w'.heap[k]? = w.heap[k]?
def MapOk (L : List Op) (mb : Nat) (w : World) : Prop := ∃ es clk, w.heap[mb]? = some (.map es clk) ∧ BadOk L es.toList
def FindPost (L : List Op) (done : Nat) (last : Int) (mb : Nat) (w : World) (e : Ending) (w' : World) : Prop :=
  ∃ ov ok xs, e = .returned (.tuple #[ov, .bool ok]) ∧ (ok = false → ¬ Can L done last) ∧ w'.ownsRow w.heap.size 3 1 ov xs.length xs ∧ xs.length ≤ left L.length done ∧ (∀ u ∈ xs, u.oneCell' = true) ∧ MapOk L mb w' ∧ FrM mb w w'

theorem FrM.refl (mb : Nat) (w : World) : FrM mb w w := ⟨rfl, rfl, rfl, Nat.le_refl _, fun _ _ _ => rfl⟩
theorem FrM.trans {mb : Nat} {a b c : World} (h : FrM mb a b) (k : FrM mb b c) : FrM mb a c :=
  ⟨k.os.trans h.os, k.tape.trans h.tape, k.output.trans h.output, Nat.le_trans h.size k.size, fun i hi hn => (k.block i (Nat.lt_of_lt_of_le hi h.size) hn).trans (h.block i hi hn)⟩
theorem FrM.below {mb : Nat} {a b : World} (h : Below a.heap.size a b) : FrM mb a b := ⟨h.os, h.tape, h.output, h.size, fun i hi _ => h.block i hi⟩
theorem FrM.drewN {mb : Nat} {a b : World} (h : FrM mb a b) (n : Nat) : FrM mb a (b.drewN n) := h.trans ⟨rfl, rfl, rfl, Nat.le_refl _, fun _ _ _ => rfl⟩
theorem FrM.alloc {mb : Nat} {a b : World} (h : FrM mb a b) (o : Obj) : FrM mb a (b.alloc o) := h.trans (.below ((Below.refl _ _).alloc (Nat.le_refl _) o))
theorem MapOk.lt {L : List Op} {mb : Nat} {w : World} (h : MapOk L mb w) : mb < w.heap.size := by
  obtain ⟨es, clk, hm, _⟩ := h
  exact (Array.getElem?_eq_some_iff.1 hm).1
theorem MapOk.below {L : List Op} {mb : Nat} {w w' : World} (h : MapOk L mb w) (hb : Below w.heap.size w w') : MapOk L mb w' := by
  have hl := h.lt
  obtain ⟨es, clk, hm, h2⟩ := h
  exact ⟨es, clk, (hb.block mb hl).trans hm, h2⟩
theorem MapOk.alloc {L : List Op} {mb : Nat} {w : World} (h : MapOk L mb w) (o : Obj) : MapOk L mb (w.alloc o) := h.below ((Below.refl _ _).alloc (Nat.le_refl _) o)
theorem MapOk.drewN {L : List Op} {mb : Nat} {w : World} (h : MapOk L mb w) (n : Nat) : MapOk L mb (w.drewN n) := h
theorem FrM.blk {mb b : Nat} {w w' : World} {l : List Value} {T : TypeId} (h : FrM mb w w') (hb : Blk w b l T) (hn : b ≠ mb) : Blk w' b l T := hb.of_block (h.block b hb.lt hn)
theorem OpsAt.laterM {w w' : World} {ao : Option Addr} {L : List Op} {mb : Nat} (h : OpsAt w ao L) (hf : FrM mb w w') (hm : MapOk L mb w) : OpsAt w' ao L := by
  obtain ⟨es, clk, hmb, _⟩ := hm
  intro hne
  obtain ⟨b, off, e, hc⟩ := h hne
  refine ⟨b, off, e, fun k o ho => ?_⟩
  obtain ⟨c0, c1, c2, c3, c4⟩ := hc k o ho
  have hl := World.block_lt_of_cell? w _ c0
  have hn : b ≠ mb := by
    intro e2
    subst e2
    simp [World.cell?, hmb] at c0
  have hcell : ∀ x, w'.cell? ⟨b, x, none⟩ = w.cell? ⟨b, x, none⟩ := fun x => World.cell?_of_block (hf.block b hl hn)
  exact ⟨(hcell _).trans c0, (hcell _).trans c1, (hcell _).trans c2, (hcell _).trans c3, (hcell _).trans c4⟩
theorem blk_ne_map {L : List Op} {w : World} {b mb : Nat} {l : List Value} {T : TypeId} (h : Blk w b l T) (hm : MapOk L mb w) : b ≠ mb := by
  intro e
  subst e
  obtain ⟨es, clk, hmb, _⟩ := hm
  unfold Blk at h
  rw [hmb] at h
  cases h

theorem full_true (n done : Nat) (N : Int) (hN : (2 : Int) ^ n % 4294967296 = N) (hn : n ≤ 8) (h : done = 2 ^ n - 1) : ((done : Int) == (N - 1) % 4294967296) = true := by
  subst h
  subst hN
  rcases (show n = 0 ∨ n = 1 ∨ n = 2 ∨ n = 3 ∨ n = 4 ∨ n = 5 ∨ n = 6 ∨ n = 7 ∨ n = 8 by omega) with rfl | rfl | rfl | rfl | rfl | rfl | rfl | rfl | rfl <;> rfl
theorem full_false (n done : Nat) (N : Int) (hN : (2 : Int) ^ n % 4294967296 = N) (hn : n ≤ 8) (h : done ≠ 2 ^ n - 1) : ((done : Int) == (N - 1) % 4294967296) = false := by
  subst hN
  rw [beq_eq_false_iff_ne]
  intro e
  apply h
  rcases (show n = 0 ∨ n = 1 ∨ n = 2 ∨ n = 3 ∨ n = 4 ∨ n = 5 ∨ n = 6 ∨ n = 7 ∨ n = 8 by omega) with rfl | rfl | rfl | rfl | rfl | rfl | rfl | rfl | rfl <;> (simp at e ⊢; omega)

theorem bit_one (x t : Nat) (hx : x < 256) : (bits BinOp.and IntKind.u32 ((x : Int) / 2 ^ t) 1 == 1) = bit x t := by
  have e : ((x : Int) / 2 ^ t) = ((x / 2 ^ t : Nat) : Int) := by simp
  have hl : x / 2 ^ t ≤ x := Nat.div_le_self _ _
  rw [e, show (1 : Int) = ((1 : Nat) : Int) from rfl, u32_and_nat _ _ (by omega) (by omega), Nat.and_one_is_mod]
  unfold bit
  rw [Bool.eq_iff_iff]
  simp
  omega

theorem set_map {L : List Op} {mb : Nat} {w : World} {o : Obj} {es : Array MapEntry} {clk : Nat} (h : w.heap[mb]? = some o) (hb : BadOk L es.toList) : MapOk L mb (setBlock w.drew mb (.map es clk)) := by
  have hlt : mb < w.heap.size := (Array.getElem?_eq_some_iff.1 h).1
  refine ⟨es, clk, ?_, hb⟩
  show (w.heap.setIfInBounds mb _)[mb]? = _
  rw [Array.getElem?_setIfInBounds_self_of_lt hlt]
theorem set_frm (mb : Nat) (w : World) (o : Obj) : FrM mb w (setBlock w.drew mb o) := by
  refine ⟨rfl, rfl, rfl, ?_, fun k _ hn => ?_⟩
  · show w.heap.size ≤ (w.heap.setIfInBounds mb o).size
    simp
  · show (w.heap.setIfInBounds mb o)[k]? = _
    rw [Array.getElem?_setIfInBounds_ne (Ne.symm hn)]
theorem grown_map {L : List Op} {mb : Nat} {w w' : World} {row : Option Nat} (h : MapOk L mb w) (hg : w.grownBy w' row) (hne : row ≠ some mb) : MapOk L mb w' := by
  have hl := h.lt
  obtain ⟨es, clk, hm, hb⟩ := h
  exact ⟨es, clk, (hg.block mb hl (Ne.symm hne)).trans hm, hb⟩
theorem grown_frm {mb : Nat} {w w' : World} {o : Obj} (hg : (w.alloc o).grownBy w' (some w.heap.size)) : FrM mb w w' :=
  ⟨hg.os, hg.tape, hg.output, by have := hg.size; simp at this; omega, fun k hk _ => (hg.block k (by simp; omega) (by simp; omega)).trans (Below.heap_alloc _ _ _ hk)⟩
theorem left_le (n done : Nat) : left n done ≤ n := by
  unfold left
  have := List.length_filter_le (fun j => !bit done j) (List.range n)
  simpa using this
theorem info3 : (Try.prog.info? 3).map (fun i => (i.zero, i.size, i.bytes)) = some (some (.int .i64 0), 1, 8) := by kernel_rfl
theorem built_row (w : World) {B : Nat} (hB : B < w.heap.size) (v : Value) : (w.alloc (.cells #[v] 3)).ownsRow B 3 1 (.slice (some ⟨w.heap.size, 0, none⟩) 1 1) 1 [v] :=
  ⟨by simp, .inr ⟨w.heap.size, 1, #[v], rfl, by omega, heap_alloc_new w _, Nat.le_refl _, by unfold maxLen; omega, by simp, by simp⟩⟩
theorem or_lt256 (a t : Nat) (ha : a < 256) (ht : t < 8) : a ||| 2 ^ t < 256 := by
  have h2 : 2 ^ t < 2 ^ 8 := Nat.pow_lt_pow_right (by omega) ht
  exact Nat.or_lt_two_pow (n := 8) (by omega) h2
theorem or_bit8 (rd t : Nat) (hr : rd < 256) (ht : t < 8) : bits BinOp.or IntKind.u32 (rd : Int) (2 ^ t % 4294967296) = ((rd ||| 2 ^ t : Nat) : Int) := by
  have h2 : 2 ^ t < 2 ^ 8 := Nat.pow_lt_pow_right (by omega) ht
  have e : ((2 : Int) ^ t % 4294967296) = ((2 ^ t : Nat) : Int) := by
    rw [show ((2 : Int) ^ t) = ((2 ^ t : Nat) : Int) by simp]
    generalize 2 ^ t = x at h2
    omega
  rw [e, u32_or_nat _ _ (by omega) (by omega)]

set_option maxRecDepth 100000 in
set_option maxHeartbeats 2000000 in
theorem find_any {ao : Option Addr} {cap : Nat} {L : List Op} {fb mb : Nat} (hl : L.length ≤ 8) : ∀ (k : Nat) (done : Nat) (last : Int) (w : World), left L.length done < k → OpsAt w ao L → done < 256 → -1 ≤ last → last < L.length →
    Blk w fb [.slice ao L.length cap, BehindV, .map (some mb)] 61 → MapOk L mb w →
    Calls Try.prog 16 #[.pointer (some ⟨fb, 0, none⟩), .int .u32 done, .int .i64 last] w (FindPost L done last mb w) := by
  intro k
  induction k with
  | zero => intro _ _ _ h; omega
  | succ k ih =>
  intro done last w hk hL hd hla hlb hf hm
  have f0 := hf.cell (o := 0) rfl
  have f2 := hf.cell (o := 2) rfl
  have hfl := hf.lt
  have HL := Lib.hid hL
  have HF := Lib.hid hf
  have HM := Lib.hid hm
  have IH := Lib.hid ih
  have HK := Lib.hid hk
  have hfm := blk_ne_map hf hm
  clear hL hf hm ih hk
  obtain ⟨N, hN⟩ : ∃ N : Int, (2 : Int) ^ L.length % 4294967296 = N := ⟨_, rfl⟩
  by_cases hfull : done = 2 ^ L.length - 1
  · have ht := full_true L.length done N hN hl hfull
    have HFU := Lib.hid hfull
    clear hfull
    go_enter Try.func16, Try.ntmps16
    go_wp2
    go_ret2
    exact ⟨.slice none 0 0, true, [], rfl, fun h => (by cases h), World.ownsRow_nil _ _ _ _, by simp, by simp, HM.out, .refl _ _⟩
  · have ht := full_false L.length done N hN hl hfull
    have HFU := Lib.hid hfull
    clear hfull
    obtain ⟨es, clk, hmb, hbad⟩ := HM.out
    obtain ⟨b, hbt, hlook⟩ := lookup_run done last hbad
    have HMB := Lib.hid hmb
    have HLOOK := Lib.hid hlook
    have HBT := Lib.hid hbt
    clear hmb hbad hlook hbt
    go_enter Try.func16, Try.ntmps16
    go_wp2
    refine gen_world (P := Code.wp Try.prog _ _ _) (Q := fun W => Below w.heap.size w W ∧ Blk W w.heap.size [.int .u32 done, .int .u32 (last + 1)] 65) _ ?_ ?_
    · exact ⟨(Below.refl _ _).alloc (Nat.le_refl _) _, Blk.new w _ _⟩
    clear f0 f2 hN
    intro w1 ⟨hb1, hkb⟩
    have hf1 := HF.out.below hb1 hfl
    have hmb1 := (hb1.block mb HM.out.lt).trans HMB.out
    have hlk : ∀ nq, (Instr.lookup 59 (.map (some mb)) (.agg #[.int .u32 (done : Int), .int .u32 (last + 1)]) false).run Try.prog (w1.drewN nq) = .ok (.bool b) (w1.drewN nq) := fun nq => HLOOK.out (w1.drewN nq) mb clk hmb1
    have f0 := hf1.cell (o := 0) rfl
    have f2 := hf1.cell (o := 2) rfl
    have x0 := hkb.cell (o := 0) rfl
    have x1 := hkb.cell (o := 1) rfl
    have HB1 := Lib.hid hb1
    have HKB := Lib.hid hkb
    have HF1 := Lib.hid hf1
    have HMB1 := Lib.hid hmb1
    clear hb1 hkb hf1 hmb1
    cases b with
    | true =>
      have hnc := HBT.out rfl
      have HNC := Lib.hid hnc
      clear hnc
      go_quiet (fail)
      go_wp2
      go_ret2
      exact ⟨.slice none 0 0, false, [], rfl, fun _ => HNC.out, World.ownsRow_nil _ _ _ _, by simp, by simp, (HM.out.below HB1.out).drewN _, (FrM.below HB1.out).drewN _⟩
    | false =>
      go_quiet (fail)
      clear hlk
      refine gen_world (P := fun W => Exit.then _ _ _ _ W) (Q := fun W => Below w.heap.size w W ∧ Blk W w.heap.size [.int .u32 done, .int .u32 (last + 1)] 65) _ ?_ ?_
      · exact ⟨below_drewN HB1.out _, HKB.out.drewN _⟩
      clear f0 f2 x0 x1 HB1 HKB HF1 HMB1 HMB HLOOK HBT
      intro w2 ⟨hb2, hkb2⟩
      have hf2 := HF.out.below hb2 hfl
      have f0 := hf2.cell (o := 0) rfl
      have HM2 := Lib.hid (HM.out.below hb2)
      have HFR2 := Lib.hid (FrM.below (mb := mb) hb2)
      have HKB2 := Lib.hid hkb2
      have hL2 := HL.out.later hb2
      by_cases hl0 : 0 ≤ last
      · obtain ⟨t, rfl⟩ := Int.eq_ofNat_of_zero_le hl0
        have htl : t < L.length := by omega
        obtain ⟨a0, ha0⟩ : ∃ a, L[t]? = some a := ⟨L[t], List.getElem?_eq_getElem htl⟩
        obtain ⟨bb, boff, hbo, hbc⟩ := hL2 (by intro e; rw [e] at htl; simp at htl)
        obtain ⟨_, _, _, _, s4⟩ := hbc t a0 ha0
        subst hbo
        have HN : Hid (a0.val = nowAt L t) := Lib.hid (by simp [nowAt, List.getD, ha0])
        clear hb2 hkb2 hf2 hL2 hbc ha0 hl0
        go_wp2_with fail
        clear f0 s4
        go_loopw [50] (fun i wr => ∃ j : Nat, j ≤ L.length ∧ i = .int .i64 j ∧ (∀ x, x < j → elig L done (t : Int) x = true → ¬ Can L (done ||| 2 ^ x) (nextOf L (t : Int) x)) ∧ MapOk L mb wr ∧ FrM mb w wr ∧ Blk wr w.heap.size [.int .u32 done, .int .u32 ((t : Int) + 1)] 65) (fun i _ => L.length - (intOf i).toNat)
        case atStart => exact ⟨0, Nat.zero_le _, rfl, fun x hx => by omega, HM2.out, HFR2.out, HKB2.out⟩
        case round =>
          clear HM2 HFR2 HKB2
          obtain ⟨j, hj, rfl, hall, hmr, hfr, hkr⟩ := hrel
          have hLr := HL.out.laterM hfr HM.out
          have hfr1 := hfr.blk HF.out hfm
          by_cases hlt : j < L.length
          · obtain ⟨a, ha⟩ : ∃ a, L[j]? = some a := ⟨L[j], List.getElem?_eq_getElem hlt⟩
            obtain ⟨b, off, hao, hcells⟩ := hLr (by intro e; rw [e] at hlt; simp at hlt)
            obtain ⟨r0, r1, r2, r3, r4⟩ := hcells j a ha
            first | subst hao | (obtain ⟨rfl, rfl⟩ := (show bb = b ∧ boff = off by simpa using hao); clear hao)
            have hga : L.getD j default = a := by simp [List.getD, ha]
            have hz := bit_one done j hd
            have HGA := Lib.hid hga
            have HALL := Lib.hid hall
            have HMR := Lib.hid hmr
            have HFR := Lib.hid hfr
            have HKR := Lib.hid hkr
            have HLR := Lib.hid hLr
            have HFB := Lib.hid hfr1
            clear hga hall hmr hfr hkr hLr hfr1 ha hcells
            have stay : ∀ W : World, elig L done (t : Int) j = false → MapOk L mb W → FrM mb w W → Blk W w.heap.size [.int .u32 done, .int .u32 ((t : Int) + 1)] 65 →
                (∀ x, x < j + 1 → elig L done (t : Int) x = true → ¬ Can L (done ||| 2 ^ x) (nextOf L (t : Int) x)) ∧ MapOk L mb W ∧ FrM mb w W ∧ Blk W w.heap.size [.int .u32 done, .int .u32 ((t : Int) + 1)] 65 := by
              intro W he h1 h2 h3
              refine ⟨fun x hx hel => ?_, h1, h2, h3⟩
              rcases Nat.lt_or_ge x j with h | h
              · exact HALL.out x h hel
              · obtain rfl : x = j := by omega
                rw [he] at hel; cases hel
            have STAY := Lib.hid stay
            clear stay
            cases hbit : bit done j with
            | true =>
              rw [hbit] at hz
              have HE : Hid (elig L done (t : Int) j = false) := Lib.hid (by unfold elig; simp [hbit])
              clear hbit
              go_wp2
              go_roundw
              case rel => exact ⟨j + 1, by omega, by go_num, STAY.out _ HE.out (HMR.out.alloc _) (HFR.out.alloc _) (HKR.out.alloc _)⟩
              case measure => simp [intOf]; omega
            | false =>
              rw [hbit] at hz
              have HBIT := Lib.hid hbit
              clear hbit
              go_wp2_with fail
              refine (waits_any done a _ (HLR.out.later ((Below.refl _ _).alloc (Nat.le_refl _) _)) hl hd (HFB.out.alloc _)).mono ?_
              rintro e w3 ⟨rfl, hb3⟩
              have hbr : Below wr.heap.size wr w3 := ((Below.refl _ _).alloc (Nat.le_refl _) _).trans (hb3.mono (by simp))
              have hab3 : Blk w3 wr.heap.size (OpL a) 35 := (Blk.new wr (OpL a) 35).below hb3 (by simp)
              have z3 := hab3.cell (o := 3) rfl
              have z4 := hab3.cell (o := 4) rfl
              have HM3 := Lib.hid (HMR.out.below hbr)
              have HFR3 := Lib.hid (HFR.out.trans (FrM.below hbr))
              have HK3 := Lib.hid (HKR.out.below hbr HKR.out.lt)
              have HL3 := Lib.hid (HLR.out.later hbr)
              have HF3 := Lib.hid (HFB.out.below hbr HFB.out.lt)
              clear hb3 hbr hab3 r0 r1 r2 r3 r4
              cases hw : waitsB L done a with
              | true =>
                have HE : Hid (elig L done (t : Int) j = false) := Lib.hid (by unfold elig; rw [HGA.out, hw]; simp)
                clear hw z3 z4
                go_wp2
                go_roundw
                case rel => first | exact ⟨j + 1, by omega, by go_num, STAY.out _ HE.out HM3.out HFR3.out HK3.out⟩ | ((repeat apply Exists.intro); exact ⟨⟨j + 1, by omega, by go_num, STAY.out _ HE.out HM3.out HFR3.out HK3.out⟩, rfl⟩)
                case measure => simp [intOf]; omega
              | false =>
                have HW := Lib.hid hw
                clear hw
                have hor := or_bit8 done j hd (by omega)
                have HOR := Lib.hid hor
                have hd2 := or_lt256 done j hd (by omega)
                have hleft : left L.length (done ||| 2 ^ j) < k := by have := left_or hlt HBIT.out; have := HK.out; omega
                clear hor
                cases hwr : a.wr with
                | true =>
                  have HE : Hid (elig L done (t : Int) j = true) := Lib.hid (by unfold elig; rw [HGA.out, HW.out, HBIT.out, hwr]; simp)
                  have HNX : Hid (nextOf L (t : Int) j = j) := Lib.hid (by unfold nextOf; rw [HGA.out, hwr]; simp)
                  rw [hwr] at z3
                  clear hwr
                  go_wp2_with fail
                  rw [HOR.out]
                  refine (IH.out (done ||| 2 ^ j) (j : Int) _ hleft HL3.out hd2 (by omega) (by omega) HF3.out HM3.out).mono ?_
                  rintro e w4 ⟨ov, ok, xs, rfl, hnc, hown, hxl, hone, hm4, hfr4⟩
                  have HNC := Lib.hid hnc
                  have HOWN := Lib.hid hown
                  have HONE := Lib.hid hone
                  have HM4 := Lib.hid hm4
                  have HFR4 := Lib.hid (HFR3.out.trans hfr4)
                  have HK4 := Lib.hid (hfr4.blk HK3.out (blk_ne_map HK3.out HM3.out))
                  have hwlt : w.heap.size < w4.heap.size := by have := HK4.out.lt; exact this
                  have hbase : w.heap.size ≤ w3.heap.size := by have := HFR3.out.size; exact this
                  have hx8 : xs.length ≤ 8 := by have := left_le L.length (done ||| 2 ^ j); omega
                  have hx9 : xs.length + 1 ≤ left L.length done := by have := left_or hlt HBIT.out; omega
                  clear hnc hown hone hm4 hfr4 z3 z4 hxl
                  cases ok with
                  | true =>
                    obtain ⟨i0, hi0, hz0, hz1, hz2⟩ := info_parts info3
                    rcases HOWN.out.2 with ⟨hov, hxn⟩ | ⟨g, cp, cur, hov, hgb, hcur, hle, hcap, hsz, htk⟩
                    · subst hov
                      have hxs : xs = [] := List.eq_nil_of_length_eq_zero hxn
                      go_wp2_with (at_builtin; refine wpList_append_own_none _ rfl _ _ _ rfl w.heap.size 3 i0 1 Try.underlying25 hi0 (.slice (some ⟨w4.heap.size, 0, none⟩) 1 1) 1 [.int .i64 j] rfl (built_row w4 hwlt _) rfl ?_)
                      go_ret2
                      exact ⟨_, true, [.int .i64 j], rfl, fun h => (by cases h), built_row w4 hwlt _, by simp; omega, by intro u hu; simp at hu; subst hu; rfl, HM4.out.alloc _, HFR4.out.alloc _⟩
                    · subst hov
                      go_wp2_with (at_builtin; refine wpList_append_own _ rfl _ _ _ rfl w.heap.size 3 i0 _ 1 8 Try.underlying25 hi0 hz0 hz1 hz2 rfl (by decide) (.slice (some ⟨w4.heap.size, 0, none⟩) 1 1) 1 [.int .i64 j] rfl (built_row w4 hwlt _) ⟨g, 0, none⟩ xs.length cp xs rfl (by simp) ((HOWN.out.alloc _).cells rfl) HONE.out (by unfold maxLen; omega) (by omega) (by simp; omega) ?_)
                      intro v2 w5 hown2 hgrow2 _
                      go_wp2
                      go_ret2
                      refine ⟨v2, true, [.int .i64 j] ++ xs, rfl, fun h => (by cases h), ?_, by simp; omega, ?_, ?_, ?_⟩
                      · rw [Nat.add_comm] at hown2
                        exact hown2
                      · intro u hu
                        rcases List.mem_append.1 hu with hu | hu
                        · simp at hu; subst hu; rfl
                        · exact HONE.out u hu
                      · exact grown_map (HM4.out.alloc _) hgrow2 (by have := HM4.out.lt; simp [Value.ownBlock]; omega)
                      · exact HFR4.out.trans (grown_frm hgrow2)
                  | false =>
                    have HE2 : Hid (∀ W : World, MapOk L mb W → FrM mb w W → Blk W w.heap.size [.int .u32 done, .int .u32 ((t : Int) + 1)] 65 →
                        (∀ x, x < j + 1 → elig L done (t : Int) x = true → ¬ Can L (done ||| 2 ^ x) (nextOf L (t : Int) x)) ∧ MapOk L mb W ∧ FrM mb w W ∧ Blk W w.heap.size [.int .u32 done, .int .u32 ((t : Int) + 1)] 65) := by
                      refine Lib.hid fun W h1 h2 h3 => ⟨fun x hx hel => ?_, h1, h2, h3⟩
                      rcases Nat.lt_or_ge x j with h | h
                      · exact HALL.out x h hel
                      · obtain rfl : x = j := by omega
                        rw [HNX.out]
                        exact HNC.out (by first | rfl | trivial)
                    go_wp2
                    go_roundw
                    case rel => first | exact ⟨j + 1, by omega, by go_num, HE2.out _ HM4.out HFR4.out HK4.out⟩ | ((repeat apply Exists.intro); exact ⟨⟨j + 1, by omega, by go_num, HE2.out _ HM4.out HFR4.out HK4.out⟩, rfl⟩)
                    case measure => simp [intOf]; omega
                | false =>
                  rw [hwr] at z3
                  by_cases hv : a.val = a0.val
                  · have HE : Hid (elig L done (t : Int) j = true) := Lib.hid (by unfold elig; rw [HGA.out, HW.out, HBIT.out, hwr, hv, ← HN.out]; simp)
                    have HNX : Hid (nextOf L (t : Int) j = (t : Int)) := Lib.hid (by unfold nextOf; rw [HGA.out, hwr]; simp)
                    have hv1 : (a.val != a0.val) = false := by simp [hv]
                    clear hwr hv
                    go_wp2_with fail
                    rw [HOR.out]
                    refine (IH.out (done ||| 2 ^ j) (t : Int) _ hleft HL3.out hd2 (by omega) (by omega) HF3.out HM3.out).mono ?_
                    rintro e w4 ⟨ov, ok, xs, rfl, hnc, hown, hxl, hone, hm4, hfr4⟩
                    have HNC := Lib.hid hnc
                    have HOWN := Lib.hid hown
                    have HONE := Lib.hid hone
                    have HM4 := Lib.hid hm4
                    have HFR4 := Lib.hid (HFR3.out.trans hfr4)
                    have HK4 := Lib.hid (hfr4.blk HK3.out (blk_ne_map HK3.out HM3.out))
                    have hwlt : w.heap.size < w4.heap.size := by have := HK4.out.lt; exact this
                    have hbase : w.heap.size ≤ w3.heap.size := by have := HFR3.out.size; exact this
                    have hx8 : xs.length ≤ 8 := by have := left_le L.length (done ||| 2 ^ j); omega
                    have hx9 : xs.length + 1 ≤ left L.length done := by have := left_or hlt HBIT.out; omega
                    clear hnc hown hone hm4 hfr4 z3 z4 hxl
                    cases ok with
                    | true =>
                      obtain ⟨i0, hi0, hz0, hz1, hz2⟩ := info_parts info3
                      rcases HOWN.out.2 with ⟨hov, hxn⟩ | ⟨g, cp, cur, hov, hgb, hcur, hle, hcap, hsz, htk⟩
                      · subst hov
                        have hxs : xs = [] := List.eq_nil_of_length_eq_zero hxn
                        go_wp2_with (at_builtin; refine wpList_append_own_none _ rfl _ _ _ rfl w.heap.size 3 i0 1 Try.underlying25 hi0 (.slice (some ⟨w4.heap.size, 0, none⟩) 1 1) 1 [.int .i64 j] rfl (built_row w4 hwlt _) rfl ?_)
                        go_ret2
                        exact ⟨_, true, [.int .i64 j], rfl, fun h => (by cases h), built_row w4 hwlt _, by simp; omega, by intro u hu; simp at hu; subst hu; rfl, HM4.out.alloc _, HFR4.out.alloc _⟩
                      · subst hov
                        go_wp2_with (at_builtin; refine wpList_append_own _ rfl _ _ _ rfl w.heap.size 3 i0 _ 1 8 Try.underlying25 hi0 hz0 hz1 hz2 rfl (by decide) (.slice (some ⟨w4.heap.size, 0, none⟩) 1 1) 1 [.int .i64 j] rfl (built_row w4 hwlt _) ⟨g, 0, none⟩ xs.length cp xs rfl (by simp) ((HOWN.out.alloc _).cells rfl) HONE.out (by unfold maxLen; omega) (by omega) (by simp; omega) ?_)
                        intro v2 w5 hown2 hgrow2 _
                        go_wp2
                        go_ret2
                        refine ⟨v2, true, [.int .i64 j] ++ xs, rfl, fun h => (by cases h), ?_, by simp; omega, ?_, ?_, ?_⟩
                        · rw [Nat.add_comm] at hown2
                          exact hown2
                        · intro u hu
                          rcases List.mem_append.1 hu with hu | hu
                          · simp at hu; subst hu; rfl
                          · exact HONE.out u hu
                        · exact grown_map (HM4.out.alloc _) hgrow2 (by have := HM4.out.lt; simp [Value.ownBlock]; omega)
                        · exact HFR4.out.trans (grown_frm hgrow2)
                    | false =>
                      have HE2 : Hid (∀ W : World, MapOk L mb W → FrM mb w W → Blk W w.heap.size [.int .u32 done, .int .u32 ((t : Int) + 1)] 65 →
                          (∀ x, x < j + 1 → elig L done (t : Int) x = true → ¬ Can L (done ||| 2 ^ x) (nextOf L (t : Int) x)) ∧ MapOk L mb W ∧ FrM mb w W ∧ Blk W w.heap.size [.int .u32 done, .int .u32 ((t : Int) + 1)] 65) := by
                        refine Lib.hid fun W h1 h2 h3 => ⟨fun x hx hel => ?_, h1, h2, h3⟩
                        rcases Nat.lt_or_ge x j with h | h
                        · exact HALL.out x h hel
                        · obtain rfl : x = j := by omega
                          rw [HNX.out]
                          exact HNC.out (by first | rfl | trivial)
                      go_wp2
                      go_roundw
                      case rel => first | exact ⟨j + 1, by omega, by go_num, HE2.out _ HM4.out HFR4.out HK4.out⟩ | ((repeat apply Exists.intro); exact ⟨⟨j + 1, by omega, by go_num, HE2.out _ HM4.out HFR4.out HK4.out⟩, rfl⟩)
                      case measure => simp [intOf]; omega
                  · have HE : Hid (elig L done (t : Int) j = false) := Lib.hid (by unfold elig; rw [HGA.out, HW.out, HBIT.out, hwr, ← HN.out]; simp [hv])
                    have hv1 : (a.val != a0.val) = true := by simp [hv]
                    clear hwr hv
                    go_wp2
                    go_roundw
                    case rel => first | exact ⟨j + 1, by omega, by go_num, STAY.out _ HE.out HM3.out HFR3.out HK3.out⟩ | ((repeat apply Exists.intro); exact ⟨⟨j + 1, by omega, by go_num, STAY.out _ HE.out HM3.out HFR3.out HK3.out⟩, rfl⟩)
                    case measure => simp [intOf]; omega
          · have hnot : ¬ Can L done (t : Int) := not_can HFU.out fun x hx he => hall x (by omega) he
            obtain ⟨es, clk, hmb, hbad⟩ := hmr
            obtain ⟨es2, clk2, hbad2, hupd⟩ := update_run (clk := clk) done (t : Int) hbad hnot
            have hu : (Instr.mapUpdate 59 (.map (some mb)) (.agg #[.int .u32 (done : Int), .int .u32 ((t : Int) + 1)]) (.bool true)).run Try.prog wr.drew = .ok () (setBlock wr.drew mb (.map es2 clk2)) := hupd wr.drew mb hmb
            have f2 := hfr1.cell (o := 2) rfl
            have x0 := hkr.cell (o := 0) rfl
            have x1 := hkr.cell (o := 1) rfl
            have HNOT := Lib.hid hnot
            have HMB := Lib.hid hmb
            have HBAD := Lib.hid hbad2
            have HFR := Lib.hid hfr
            clear hnot hmb hbad hbad2 hupd hall hfr hkr hLr hfr1
            go_wp2_with fail
            refine wp_region_parted (S := (fun w' => w'.cell? ⟨fb, 2, none⟩ = some (.map (some mb)) ∧ w'.cell? ⟨w.heap.size, 0, none⟩ = some (.int .u32 done) ∧ w'.cell? ⟨w.heap.size, 1, none⟩ = some (.int .u32 ((t : Int) + 1)))) #[{ dst := some 97, op := Go.Op.move (Go.Operand.tmp 0), type := 58, pos := "line.go:58", after := #[], guard := none }, { dst := some 98, op := Go.Op.nilCheck (Go.Operand.tmp 97), type := 0, pos := "line.go:58", after := #[{ on := 0, ground := Go.Ground.data }], guard := none }, { dst := some 99, op := Go.Op.fieldAddr 61 (Go.Operand.tmp 98) 2, type := 0, pos := "line.go:58", after := #[{ on := 1, ground := Go.Ground.data }], guard := none }, { dst := some 100, op := Go.Op.load 59 (Go.Operand.tmp 99), type := 59, pos := "line.go:58", after := #[{ on := 2, ground := Go.Ground.data }], guard := none }, { dst := some 101, op := Go.Op.load 65 (Go.Operand.tmp 8), type := 65, pos := "line.go:58", after := #[], guard := none }] (by kernel_rfl) (by kernel_rfl) (by kernel_rfl) ?_ (fun hHeld => ?_)
            · first | exact ⟨f2, x0, x1⟩ | go_keep
            skip
            refine wpAnyH_take (i := 0) (oi := { dst := some 97, op := Go.Op.move (Go.Operand.tmp 0), type := 58, pos := "line.go:58", after := #[], guard := none }) (v := ?_) rfl (by kernel_rfl) (by kernel_rfl) (by kernel_rfl) (fun _ _ _ h => h) (Or.inl ⟨by rfl, ?_⟩) (by assumption) ?_
            rotate_left 1
            · intro w hSw; (try dsimp only at hSw); go_simp; try with_reducible rfl
            (try simp only [Act.put, List.setIfInBounds_toArray, List.set_cons_zero, List.set_cons_succ])
            refine wpAnyH_take (i := 1) (oi := { dst := some 98, op := Go.Op.nilCheck (Go.Operand.tmp 97), type := 0, pos := "line.go:58", after := #[{ on := 0, ground := Go.Ground.data }], guard := none }) (v := ?_) rfl (by kernel_rfl) (by kernel_rfl) (by kernel_rfl) (fun _ _ _ h => h) (Or.inl ⟨by rfl, ?_⟩) (by assumption) ?_
            rotate_left 1
            · intro w hSw; (try dsimp only at hSw); go_simp; try with_reducible rfl
            (try simp only [Act.put, List.setIfInBounds_toArray, List.set_cons_zero, List.set_cons_succ])
            refine wpAnyH_take (i := 2) (oi := { dst := some 99, op := Go.Op.fieldAddr 61 (Go.Operand.tmp 98) 2, type := 0, pos := "line.go:58", after := #[{ on := 1, ground := Go.Ground.data }], guard := none }) (v := ?_) rfl (by kernel_rfl) (by kernel_rfl) (by kernel_rfl) (fun _ _ _ h => h) (Or.inl ⟨by rfl, ?_⟩) (by assumption) ?_
            rotate_left 1
            · intro w hSw; (try dsimp only at hSw); go_simp; try with_reducible rfl
            (try simp only [Act.put, List.setIfInBounds_toArray, List.set_cons_zero, List.set_cons_succ])
            refine wpAnyH_take (i := 3) (oi := { dst := some 100, op := Go.Op.load 59 (Go.Operand.tmp 99), type := 59, pos := "line.go:58", after := #[{ on := 2, ground := Go.Ground.data }], guard := none }) (v := ?_) rfl (by kernel_rfl) (by kernel_rfl) (by kernel_rfl) (fun _ _ _ h => h) (Or.inl ⟨by rfl, ?_⟩) (by assumption) ?_
            rotate_left 1
            · intro w hSw; (try dsimp only at hSw); go_simp; try with_reducible rfl
            (try simp only [Act.put, List.setIfInBounds_toArray, List.set_cons_zero, List.set_cons_succ])
            refine wpAnyH_take (i := 4) (oi := { dst := some 101, op := Go.Op.load 65 (Go.Operand.tmp 8), type := 65, pos := "line.go:58", after := #[], guard := none }) (v := ?_) rfl (by kernel_rfl) (by kernel_rfl) (by kernel_rfl) (fun _ _ _ h => h) (Or.inl ⟨by rfl, ?_⟩) (by assumption) ?_
            rotate_left 1
            · intro w hSw; (try dsimp only at hSw); go_simp; try with_reducible rfl
            (try simp only [Act.put, List.setIfInBounds_toArray, List.set_cons_zero, List.set_cons_succ])
            refine wpAnyH_done (by kernel_rfl) ?_ _
            show wpAny _ _ _ _ 1 _ _ _
            refine wpAny_ready (rs := [5]) (by kernel_rfl) (by simp) ?_
            refine AllReady.cons (o := { dst := none, op := Go.Op.mapUpdate 59 (Go.Operand.tmp 100) (Go.Operand.tmp 101) (Go.Operand.const (Go.Value.bool true)), type := 0, pos := "line.go:58", after := #[{ on := 3, ground := Go.Ground.data }, { on := 4, ground := Go.Ground.data }, { on := 0, ground := Go.Ground.phase }, { on := 1, ground := Go.Ground.phase }, { on := 2, ground := Go.Ground.phase }, { on := 3, ground := Go.Ground.phase }, { on := 4, ground := Go.Ground.phase }], guard := none }) rfl (fun K hK => ?_) ?_
            · go_simp
              refine hK _ _ ?_
              clear hK K
              (try simp only [Act.put, List.setIfInBounds_toArray, List.set_cons_zero, List.set_cons_succ])
              refine wpAny_done (by kernel_rfl) ?_ _
              go_wp2
              go_ret2
              exact ⟨.slice none 0 0, false, [], rfl, fun _ => HNOT.out, World.ownsRow_nil _ _ _ _, by simp, by simp, set_map HMB.out (by exact HBAD.out), HFR.out.trans (set_frm _ _ _)⟩
            exact AllReady.nil
      · have hl1 : last < 0 := by omega
        have HN : Hid ((0 : Int) = nowAt L last) := Lib.hid (by simp [nowAt, hl0])
        clear hb2 hkb2 hf2 hL2 hl0
        go_wp2_with fail
        clear f0
        go_loopw [50] (fun i wr => ∃ j : Nat, j ≤ L.length ∧ i = .int .i64 j ∧ (∀ x, x < j → elig L done last x = true → ¬ Can L (done ||| 2 ^ x) (nextOf L last x)) ∧ MapOk L mb wr ∧ FrM mb w wr ∧ Blk wr w.heap.size [.int .u32 done, .int .u32 (last + 1)] 65) (fun i _ => L.length - (intOf i).toNat)
        case atStart => exact ⟨0, Nat.zero_le _, rfl, fun x hx => by omega, HM2.out, HFR2.out, HKB2.out⟩
        case round =>
          clear HM2 HFR2 HKB2
          obtain ⟨j, hj, rfl, hall, hmr, hfr, hkr⟩ := hrel
          have hLr := HL.out.laterM hfr HM.out
          have hfr1 := hfr.blk HF.out hfm
          by_cases hlt : j < L.length
          · obtain ⟨a, ha⟩ : ∃ a, L[j]? = some a := ⟨L[j], List.getElem?_eq_getElem hlt⟩
            obtain ⟨b, off, hao, hcells⟩ := hLr (by intro e; rw [e] at hlt; simp at hlt)
            obtain ⟨r0, r1, r2, r3, r4⟩ := hcells j a ha
            first | subst hao | (obtain ⟨rfl, rfl⟩ := (show bb = b ∧ boff = off by simpa using hao); clear hao)
            have hga : L.getD j default = a := by simp [List.getD, ha]
            have hz := bit_one done j hd
            have HGA := Lib.hid hga
            have HALL := Lib.hid hall
            have HMR := Lib.hid hmr
            have HFR := Lib.hid hfr
            have HKR := Lib.hid hkr
            have HLR := Lib.hid hLr
            have HFB := Lib.hid hfr1
            clear hga hall hmr hfr hkr hLr hfr1 ha hcells
            have stay : ∀ W : World, elig L done last j = false → MapOk L mb W → FrM mb w W → Blk W w.heap.size [.int .u32 done, .int .u32 (last + 1)] 65 →
                (∀ x, x < j + 1 → elig L done last x = true → ¬ Can L (done ||| 2 ^ x) (nextOf L last x)) ∧ MapOk L mb W ∧ FrM mb w W ∧ Blk W w.heap.size [.int .u32 done, .int .u32 (last + 1)] 65 := by
              intro W he h1 h2 h3
              refine ⟨fun x hx hel => ?_, h1, h2, h3⟩
              rcases Nat.lt_or_ge x j with h | h
              · exact HALL.out x h hel
              · obtain rfl : x = j := by omega
                rw [he] at hel; cases hel
            have STAY := Lib.hid stay
            clear stay
            cases hbit : bit done j with
            | true =>
              rw [hbit] at hz
              have HE : Hid (elig L done last j = false) := Lib.hid (by unfold elig; simp [hbit])
              clear hbit
              go_wp2
              go_roundw
              case rel => exact ⟨j + 1, by omega, by go_num, STAY.out _ HE.out (HMR.out.alloc _) (HFR.out.alloc _) (HKR.out.alloc _)⟩
              case measure => simp [intOf]; omega
            | false =>
              rw [hbit] at hz
              have HBIT := Lib.hid hbit
              clear hbit
              go_wp2_with fail
              refine (waits_any done a _ (HLR.out.later ((Below.refl _ _).alloc (Nat.le_refl _) _)) hl hd (HFB.out.alloc _)).mono ?_
              rintro e w3 ⟨rfl, hb3⟩
              have hbr : Below wr.heap.size wr w3 := ((Below.refl _ _).alloc (Nat.le_refl _) _).trans (hb3.mono (by simp))
              have hab3 : Blk w3 wr.heap.size (OpL a) 35 := (Blk.new wr (OpL a) 35).below hb3 (by simp)
              have z3 := hab3.cell (o := 3) rfl
              have z4 := hab3.cell (o := 4) rfl
              have HM3 := Lib.hid (HMR.out.below hbr)
              have HFR3 := Lib.hid (HFR.out.trans (FrM.below hbr))
              have HK3 := Lib.hid (HKR.out.below hbr HKR.out.lt)
              have HL3 := Lib.hid (HLR.out.later hbr)
              have HF3 := Lib.hid (HFB.out.below hbr HFB.out.lt)
              clear hb3 hbr hab3 r0 r1 r2 r3 r4
              cases hw : waitsB L done a with
              | true =>
                have HE : Hid (elig L done last j = false) := Lib.hid (by unfold elig; rw [HGA.out, hw]; simp)
                clear hw z3 z4
                go_wp2
                go_roundw
                case rel => first | exact ⟨j + 1, by omega, by go_num, STAY.out _ HE.out HM3.out HFR3.out HK3.out⟩ | ((repeat apply Exists.intro); exact ⟨⟨j + 1, by omega, by go_num, STAY.out _ HE.out HM3.out HFR3.out HK3.out⟩, rfl⟩)
                case measure => simp [intOf]; omega
              | false =>
                have HW := Lib.hid hw
                clear hw
                have hor := or_bit8 done j hd (by omega)
                have HOR := Lib.hid hor
                have hd2 := or_lt256 done j hd (by omega)
                have hleft : left L.length (done ||| 2 ^ j) < k := by have := left_or hlt HBIT.out; have := HK.out; omega
                clear hor
                cases hwr : a.wr with
                | true =>
                  have HE : Hid (elig L done last j = true) := Lib.hid (by unfold elig; rw [HGA.out, HW.out, HBIT.out, hwr]; simp)
                  have HNX : Hid (nextOf L last j = j) := Lib.hid (by unfold nextOf; rw [HGA.out, hwr]; simp)
                  rw [hwr] at z3
                  clear hwr
                  go_wp2_with fail
                  rw [HOR.out]
                  refine (IH.out (done ||| 2 ^ j) (j : Int) _ hleft HL3.out hd2 (by omega) (by omega) HF3.out HM3.out).mono ?_
                  rintro e w4 ⟨ov, ok, xs, rfl, hnc, hown, hxl, hone, hm4, hfr4⟩
                  have HNC := Lib.hid hnc
                  have HOWN := Lib.hid hown
                  have HONE := Lib.hid hone
                  have HM4 := Lib.hid hm4
                  have HFR4 := Lib.hid (HFR3.out.trans hfr4)
                  have HK4 := Lib.hid (hfr4.blk HK3.out (blk_ne_map HK3.out HM3.out))
                  have hwlt : w.heap.size < w4.heap.size := by have := HK4.out.lt; exact this
                  have hbase : w.heap.size ≤ w3.heap.size := by have := HFR3.out.size; exact this
                  have hx8 : xs.length ≤ 8 := by have := left_le L.length (done ||| 2 ^ j); omega
                  have hx9 : xs.length + 1 ≤ left L.length done := by have := left_or hlt HBIT.out; omega
                  clear hnc hown hone hm4 hfr4 z3 z4 hxl
                  cases ok with
                  | true =>
                    obtain ⟨i0, hi0, hz0, hz1, hz2⟩ := info_parts info3
                    rcases HOWN.out.2 with ⟨hov, hxn⟩ | ⟨g, cp, cur, hov, hgb, hcur, hle, hcap, hsz, htk⟩
                    · subst hov
                      have hxs : xs = [] := List.eq_nil_of_length_eq_zero hxn
                      go_wp2_with (at_builtin; refine wpList_append_own_none _ rfl _ _ _ rfl w.heap.size 3 i0 1 Try.underlying25 hi0 (.slice (some ⟨w4.heap.size, 0, none⟩) 1 1) 1 [.int .i64 j] rfl (built_row w4 hwlt _) rfl ?_)
                      go_ret2
                      exact ⟨_, true, [.int .i64 j], rfl, fun h => (by cases h), built_row w4 hwlt _, by simp; omega, by intro u hu; simp at hu; subst hu; rfl, HM4.out.alloc _, HFR4.out.alloc _⟩
                    · subst hov
                      go_wp2_with (at_builtin; refine wpList_append_own _ rfl _ _ _ rfl w.heap.size 3 i0 _ 1 8 Try.underlying25 hi0 hz0 hz1 hz2 rfl (by decide) (.slice (some ⟨w4.heap.size, 0, none⟩) 1 1) 1 [.int .i64 j] rfl (built_row w4 hwlt _) ⟨g, 0, none⟩ xs.length cp xs rfl (by simp) ((HOWN.out.alloc _).cells rfl) HONE.out (by unfold maxLen; omega) (by omega) (by simp; omega) ?_)
                      intro v2 w5 hown2 hgrow2 _
                      go_wp2
                      go_ret2
                      refine ⟨v2, true, [.int .i64 j] ++ xs, rfl, fun h => (by cases h), ?_, by simp; omega, ?_, ?_, ?_⟩
                      · rw [Nat.add_comm] at hown2
                        exact hown2
                      · intro u hu
                        rcases List.mem_append.1 hu with hu | hu
                        · simp at hu; subst hu; rfl
                        · exact HONE.out u hu
                      · exact grown_map (HM4.out.alloc _) hgrow2 (by have := HM4.out.lt; simp [Value.ownBlock]; omega)
                      · exact HFR4.out.trans (grown_frm hgrow2)
                  | false =>
                    have HE2 : Hid (∀ W : World, MapOk L mb W → FrM mb w W → Blk W w.heap.size [.int .u32 done, .int .u32 (last + 1)] 65 →
                        (∀ x, x < j + 1 → elig L done last x = true → ¬ Can L (done ||| 2 ^ x) (nextOf L last x)) ∧ MapOk L mb W ∧ FrM mb w W ∧ Blk W w.heap.size [.int .u32 done, .int .u32 (last + 1)] 65) := by
                      refine Lib.hid fun W h1 h2 h3 => ⟨fun x hx hel => ?_, h1, h2, h3⟩
                      rcases Nat.lt_or_ge x j with h | h
                      · exact HALL.out x h hel
                      · obtain rfl : x = j := by omega
                        rw [HNX.out]
                        exact HNC.out (by first | rfl | trivial)
                    go_wp2
                    go_roundw
                    case rel => first | exact ⟨j + 1, by omega, by go_num, HE2.out _ HM4.out HFR4.out HK4.out⟩ | ((repeat apply Exists.intro); exact ⟨⟨j + 1, by omega, by go_num, HE2.out _ HM4.out HFR4.out HK4.out⟩, rfl⟩)
                    case measure => simp [intOf]; omega
                | false =>
                  rw [hwr] at z3
                  by_cases hv : a.val = 0
                  · have HE : Hid (elig L done last j = true) := Lib.hid (by unfold elig; rw [HGA.out, HW.out, HBIT.out, hwr, hv, ← HN.out]; simp)
                    have HNX : Hid (nextOf L last j = last) := Lib.hid (by unfold nextOf; rw [HGA.out, hwr]; simp)
                    have hv1 : (a.val != 0) = false := by simp [hv]
                    clear hwr hv
                    go_wp2_with fail
                    rw [HOR.out]
                    refine (IH.out (done ||| 2 ^ j) last _ hleft HL3.out hd2 (by omega) (by omega) HF3.out HM3.out).mono ?_
                    rintro e w4 ⟨ov, ok, xs, rfl, hnc, hown, hxl, hone, hm4, hfr4⟩
                    have HNC := Lib.hid hnc
                    have HOWN := Lib.hid hown
                    have HONE := Lib.hid hone
                    have HM4 := Lib.hid hm4
                    have HFR4 := Lib.hid (HFR3.out.trans hfr4)
                    have HK4 := Lib.hid (hfr4.blk HK3.out (blk_ne_map HK3.out HM3.out))
                    have hwlt : w.heap.size < w4.heap.size := by have := HK4.out.lt; exact this
                    have hbase : w.heap.size ≤ w3.heap.size := by have := HFR3.out.size; exact this
                    have hx8 : xs.length ≤ 8 := by have := left_le L.length (done ||| 2 ^ j); omega
                    have hx9 : xs.length + 1 ≤ left L.length done := by have := left_or hlt HBIT.out; omega
                    clear hnc hown hone hm4 hfr4 z3 z4 hxl
                    cases ok with
                    | true =>
                      obtain ⟨i0, hi0, hz0, hz1, hz2⟩ := info_parts info3
                      rcases HOWN.out.2 with ⟨hov, hxn⟩ | ⟨g, cp, cur, hov, hgb, hcur, hle, hcap, hsz, htk⟩
                      · subst hov
                        have hxs : xs = [] := List.eq_nil_of_length_eq_zero hxn
                        go_wp2_with (at_builtin; refine wpList_append_own_none _ rfl _ _ _ rfl w.heap.size 3 i0 1 Try.underlying25 hi0 (.slice (some ⟨w4.heap.size, 0, none⟩) 1 1) 1 [.int .i64 j] rfl (built_row w4 hwlt _) rfl ?_)
                        go_ret2
                        exact ⟨_, true, [.int .i64 j], rfl, fun h => (by cases h), built_row w4 hwlt _, by simp; omega, by intro u hu; simp at hu; subst hu; rfl, HM4.out.alloc _, HFR4.out.alloc _⟩
                      · subst hov
                        go_wp2_with (at_builtin; refine wpList_append_own _ rfl _ _ _ rfl w.heap.size 3 i0 _ 1 8 Try.underlying25 hi0 hz0 hz1 hz2 rfl (by decide) (.slice (some ⟨w4.heap.size, 0, none⟩) 1 1) 1 [.int .i64 j] rfl (built_row w4 hwlt _) ⟨g, 0, none⟩ xs.length cp xs rfl (by simp) ((HOWN.out.alloc _).cells rfl) HONE.out (by unfold maxLen; omega) (by omega) (by simp; omega) ?_)
                        intro v2 w5 hown2 hgrow2 _
                        go_wp2
                        go_ret2
                        refine ⟨v2, true, [.int .i64 j] ++ xs, rfl, fun h => (by cases h), ?_, by simp; omega, ?_, ?_, ?_⟩
                        · rw [Nat.add_comm] at hown2
                          exact hown2
                        · intro u hu
                          rcases List.mem_append.1 hu with hu | hu
                          · simp at hu; subst hu; rfl
                          · exact HONE.out u hu
                        · exact grown_map (HM4.out.alloc _) hgrow2 (by have := HM4.out.lt; simp [Value.ownBlock]; omega)
                        · exact HFR4.out.trans (grown_frm hgrow2)
                    | false =>
                      have HE2 : Hid (∀ W : World, MapOk L mb W → FrM mb w W → Blk W w.heap.size [.int .u32 done, .int .u32 (last + 1)] 65 →
                          (∀ x, x < j + 1 → elig L done last x = true → ¬ Can L (done ||| 2 ^ x) (nextOf L last x)) ∧ MapOk L mb W ∧ FrM mb w W ∧ Blk W w.heap.size [.int .u32 done, .int .u32 (last + 1)] 65) := by
                        refine Lib.hid fun W h1 h2 h3 => ⟨fun x hx hel => ?_, h1, h2, h3⟩
                        rcases Nat.lt_or_ge x j with h | h
                        · exact HALL.out x h hel
                        · obtain rfl : x = j := by omega
                          rw [HNX.out]
                          exact HNC.out (by first | rfl | trivial)
                      go_wp2
                      go_roundw
                      case rel => first | exact ⟨j + 1, by omega, by go_num, HE2.out _ HM4.out HFR4.out HK4.out⟩ | ((repeat apply Exists.intro); exact ⟨⟨j + 1, by omega, by go_num, HE2.out _ HM4.out HFR4.out HK4.out⟩, rfl⟩)
                      case measure => simp [intOf]; omega
                  · have HE : Hid (elig L done last j = false) := Lib.hid (by unfold elig; rw [HGA.out, HW.out, HBIT.out, hwr, ← HN.out]; simp [hv])
                    have hv1 : (a.val != 0) = true := by simp [hv]
                    clear hwr hv
                    go_wp2
                    go_roundw
                    case rel => first | exact ⟨j + 1, by omega, by go_num, STAY.out _ HE.out HM3.out HFR3.out HK3.out⟩ | ((repeat apply Exists.intro); exact ⟨⟨j + 1, by omega, by go_num, STAY.out _ HE.out HM3.out HFR3.out HK3.out⟩, rfl⟩)
                    case measure => simp [intOf]; omega
          · have hnot : ¬ Can L done last := not_can HFU.out fun x hx he => hall x (by omega) he
            obtain ⟨es, clk, hmb, hbad⟩ := hmr
            obtain ⟨es2, clk2, hbad2, hupd⟩ := update_run (clk := clk) done last hbad hnot
            have hu : (Instr.mapUpdate 59 (.map (some mb)) (.agg #[.int .u32 (done : Int), .int .u32 (last + 1)]) (.bool true)).run Try.prog wr.drew = .ok () (setBlock wr.drew mb (.map es2 clk2)) := hupd wr.drew mb hmb
            have f2 := hfr1.cell (o := 2) rfl
            have x0 := hkr.cell (o := 0) rfl
            have x1 := hkr.cell (o := 1) rfl
            have HNOT := Lib.hid hnot
            have HMB := Lib.hid hmb
            have HBAD := Lib.hid hbad2
            have HFR := Lib.hid hfr
            clear hnot hmb hbad hbad2 hupd hall hfr hkr hLr hfr1
            go_wp2_with fail
            refine wp_region_parted (S := (fun w' => w'.cell? ⟨fb, 2, none⟩ = some (.map (some mb)) ∧ w'.cell? ⟨w.heap.size, 0, none⟩ = some (.int .u32 done) ∧ w'.cell? ⟨w.heap.size, 1, none⟩ = some (.int .u32 (last + 1)))) #[{ dst := some 97, op := Go.Op.move (Go.Operand.tmp 0), type := 58, pos := "line.go:58", after := #[], guard := none }, { dst := some 98, op := Go.Op.nilCheck (Go.Operand.tmp 97), type := 0, pos := "line.go:58", after := #[{ on := 0, ground := Go.Ground.data }], guard := none }, { dst := some 99, op := Go.Op.fieldAddr 61 (Go.Operand.tmp 98) 2, type := 0, pos := "line.go:58", after := #[{ on := 1, ground := Go.Ground.data }], guard := none }, { dst := some 100, op := Go.Op.load 59 (Go.Operand.tmp 99), type := 59, pos := "line.go:58", after := #[{ on := 2, ground := Go.Ground.data }], guard := none }, { dst := some 101, op := Go.Op.load 65 (Go.Operand.tmp 8), type := 65, pos := "line.go:58", after := #[], guard := none }] (by kernel_rfl) (by kernel_rfl) (by kernel_rfl) ?_ (fun hHeld => ?_)
            · first | exact ⟨f2, x0, x1⟩ | go_keep
            skip
            refine wpAnyH_take (i := 0) (oi := { dst := some 97, op := Go.Op.move (Go.Operand.tmp 0), type := 58, pos := "line.go:58", after := #[], guard := none }) (v := ?_) rfl (by kernel_rfl) (by kernel_rfl) (by kernel_rfl) (fun _ _ _ h => h) (Or.inl ⟨by rfl, ?_⟩) (by assumption) ?_
            rotate_left 1
            · intro w hSw; (try dsimp only at hSw); go_simp; try with_reducible rfl
            (try simp only [Act.put, List.setIfInBounds_toArray, List.set_cons_zero, List.set_cons_succ])
            refine wpAnyH_take (i := 1) (oi := { dst := some 98, op := Go.Op.nilCheck (Go.Operand.tmp 97), type := 0, pos := "line.go:58", after := #[{ on := 0, ground := Go.Ground.data }], guard := none }) (v := ?_) rfl (by kernel_rfl) (by kernel_rfl) (by kernel_rfl) (fun _ _ _ h => h) (Or.inl ⟨by rfl, ?_⟩) (by assumption) ?_
            rotate_left 1
            · intro w hSw; (try dsimp only at hSw); go_simp; try with_reducible rfl
            (try simp only [Act.put, List.setIfInBounds_toArray, List.set_cons_zero, List.set_cons_succ])
            refine wpAnyH_take (i := 2) (oi := { dst := some 99, op := Go.Op.fieldAddr 61 (Go.Operand.tmp 98) 2, type := 0, pos := "line.go:58", after := #[{ on := 1, ground := Go.Ground.data }], guard := none }) (v := ?_) rfl (by kernel_rfl) (by kernel_rfl) (by kernel_rfl) (fun _ _ _ h => h) (Or.inl ⟨by rfl, ?_⟩) (by assumption) ?_
            rotate_left 1
            · intro w hSw; (try dsimp only at hSw); go_simp; try with_reducible rfl
            (try simp only [Act.put, List.setIfInBounds_toArray, List.set_cons_zero, List.set_cons_succ])
            refine wpAnyH_take (i := 3) (oi := { dst := some 100, op := Go.Op.load 59 (Go.Operand.tmp 99), type := 59, pos := "line.go:58", after := #[{ on := 2, ground := Go.Ground.data }], guard := none }) (v := ?_) rfl (by kernel_rfl) (by kernel_rfl) (by kernel_rfl) (fun _ _ _ h => h) (Or.inl ⟨by rfl, ?_⟩) (by assumption) ?_
            rotate_left 1
            · intro w hSw; (try dsimp only at hSw); go_simp; try with_reducible rfl
            (try simp only [Act.put, List.setIfInBounds_toArray, List.set_cons_zero, List.set_cons_succ])
            refine wpAnyH_take (i := 4) (oi := { dst := some 101, op := Go.Op.load 65 (Go.Operand.tmp 8), type := 65, pos := "line.go:58", after := #[], guard := none }) (v := ?_) rfl (by kernel_rfl) (by kernel_rfl) (by kernel_rfl) (fun _ _ _ h => h) (Or.inl ⟨by rfl, ?_⟩) (by assumption) ?_
            rotate_left 1
            · intro w hSw; (try dsimp only at hSw); go_simp; try with_reducible rfl
            (try simp only [Act.put, List.setIfInBounds_toArray, List.set_cons_zero, List.set_cons_succ])
            refine wpAnyH_done (by kernel_rfl) ?_ _
            show wpAny _ _ _ _ 1 _ _ _
            refine wpAny_ready (rs := [5]) (by kernel_rfl) (by simp) ?_
            refine AllReady.cons (o := { dst := none, op := Go.Op.mapUpdate 59 (Go.Operand.tmp 100) (Go.Operand.tmp 101) (Go.Operand.const (Go.Value.bool true)), type := 0, pos := "line.go:58", after := #[{ on := 3, ground := Go.Ground.data }, { on := 4, ground := Go.Ground.data }, { on := 0, ground := Go.Ground.phase }, { on := 1, ground := Go.Ground.phase }, { on := 2, ground := Go.Ground.phase }, { on := 3, ground := Go.Ground.phase }, { on := 4, ground := Go.Ground.phase }], guard := none }) rfl (fun K hK => ?_) ?_
            · go_simp
              refine hK _ _ ?_
              clear hK K
              (try simp only [Act.put, List.setIfInBounds_toArray, List.set_cons_zero, List.set_cons_succ])
              refine wpAny_done (by kernel_rfl) ?_ _
              go_wp2
              go_ret2
              exact ⟨.slice none 0 0, false, [], rfl, fun _ => HNOT.out, World.ownsRow_nil _ _ _ _, by simp, by simp, set_map HMB.out (by exact HBAD.out), HFR.out.trans (set_frm _ _ _)⟩
            exact AllReady.nil
end Go.Proofs.Ytbibibpliahclaa.Cp
