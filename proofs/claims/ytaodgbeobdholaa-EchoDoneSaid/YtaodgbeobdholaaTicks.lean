/-
  The walk through tick's ticks.
-/
import Derived.Test.YtaodgbeobdholaaCheck
import Derived.Test.YtaodgbeobdholaaCells
import Derived.BigRegion
namespace Go.Proofs.Ytaodgbeobdholaa.Rn
open Go Go.RowKit Mem

theorem info3 : (Try.prog.info? 3).map (fun i => (i.zero, i.size, i.bytes)) = some (some (.int .i64 0), 1, 8) := by kernel_rfl

def ints (f : Int → Int) : Nat → Value := fun p => .int .i64 (f p)
def outs (T : List Int) : Nat → Value := fun p => .int .i64 (T.getD p 0)

theorem ints_set (c : Int → Int) (n p : Nat) (t : Int) : (rowOf n (ints c)).set p (.int .i64 t) = rowOf n (ints (upF c p t)) := by
  rw [rowOf_set]
  refine rowOf_congr fun i _ => ?_
  unfold ints upF
  by_cases h : i = p
  · subst h; simp
  · rw [if_neg h, if_neg (by omega)]
theorem outs_set (T : List Int) (n : Nat) (t : Int) : (rowOf n (outs T)).set T.length (.int .i64 t) = rowOf n (outs (T ++ [t])) := by
  rw [rowOf_set]
  refine rowOf_congr fun i _ => ?_
  unfold outs
  by_cases h : i = T.length
  · subst h; simp [List.getD]
  · rw [if_neg h]
    rcases Nat.lt_or_ge i T.length with h1 | h1
    · simp [List.getD, List.getElem?_append_left h1]
    · simp [List.getD, List.getElem?_append_right h1, List.getElem?_eq_none h1, List.getElem?_eq_none (show [t].length ≤ i - T.length by simp; omega)]

structure TkW (B : Nat) (n : Nat) (L : List Ev) (w : World) (c s : Int → Int) (T : List Int) (k : Nat) (W : World) : Prop where
  clk : Blk W B (rowOf n (ints c)) 3
  map : IMap Try.prog .i64 3 W (B + 1) k s
  out : Blk W (B + 1 + 1) (rowOf L.length (outs T)) 3
  below : Below B w W

def Tk5 (B n k mb : Nat) (L : List Ev) (w : World) (c s : Int → Int) (T : List Int) (evl : List Value) (W : World) : Prop :=
  Blk W B (rowOf n (ints c)) 3 ∧ IMap Try.prog .i64 3 W (B + 1) k s ∧ Blk W (B + 1 + 1) (rowOf L.length (outs T)) 3 ∧ Below B w W ∧ Blk W mb evl 45
theorem tk_stored {B n k mb : Nat} {L : List Ev} {w W : World} {c s : Int → Int} {T : List Int} {pr : Nat} {evl : List Value} (t : Int) (hTl : T.length = k) (hmb0 : B + 1 + 1 < mb)
    (h : Tk5 B n k mb L w c s T evl W) :
    Tk5 B n k mb L w (upF c pr t) s (T ++ [t]) evl (((W.setCell ⟨B + 1 + 1, k, none⟩ (.int .i64 t)).setCell ⟨B, pr, none⟩ (.int .i64 t)).drew) := by
  obtain ⟨h1, h2, h3, h4, h5⟩ := h
  refine ⟨?_, ?_, ?_, ?_, ?_⟩
  · have := ((h1.set_ne ⟨B + 1 + 1, k, none⟩ (.int .i64 t) (by simp; omega)).set pr (.int .i64 t)).drew
    rw [ints_set] at this
    exact this
  · exact ((h2.set_ne _ _ (by simp)).set_ne _ _ (by simp)).drew
  · have h6 := h3.set k (.int .i64 t)
    rw [← hTl, outs_set, hTl] at h6
    exact (h6.set_ne _ _ (by simp; omega)).drew
  · exact ((h4.setCell (by simp; omega) _).setCell (by simp) _).drew
  · exact ((h5.set_ne _ _ (by simp; omega)).set_ne _ _ (by simp; omega)).drew

set_option maxRecDepth 100000 in
set_option maxHeartbeats 2000000 in
theorem ticks_any (n : Nat) (ao : Option Addr) (cap : Nat) (L : List Ev) (w : World) (h1 : 1 ≤ n) (h6 : n ≤ 6) (hl : L.length ≤ 30) (hp : ∀ e ∈ L, 0 ≤ e.proc ∧ e.proc < n ∧ (e.kind ≠ 1 → 0 ≤ e.msg ∧ e.msg ≤ 20)) (hL : EvsAt w ao L) :
    Calls Try.prog 19 #[.int .i64 n, .slice ao L.length cap] w fun e w' => ∃ b, e = .returned (.slice (some ⟨b, 0, none⟩) L.length L.length) ∧ Blk w' b (rowOf L.length (outs (ticks L))) 3 ∧ w.heap.size ≤ b ∧ Below w.heap.size w w' := by
  have hmm := @run_makeMap Try.prog
  have hmk : ∀ (m : Nat), m ≤ 60 → ∀ u : World, (Instr.makeSlice 23 (.int .i64 m) (.int .i64 m)).run Try.prog u = .ok (.slice (some ⟨u.heap.size, 0, none⟩) m m) (u.alloc (.cells (rowOf m (fun _ => .int .i64 0)).toArray 3)) := fun m hm u => by
    obtain ⟨i0, hi0, hz0, hz1, hz2⟩ := info_parts info3
    have h := run_make (P := Try.prog) u 23 3 i0 _ Try.underlying23 hi0 hz0 .i64 .i64 (m : Int) (m : Int) (by omega) (Int.le_refl _) (by rw [hz2]; omega) (by omega)
    simpa [hz1, Value.cells, made_row, rowOf_replicate] using h
  have hmk1 := hmk n (by omega)
  have hmk2 := hmk L.length (by omega)
  clear hmk
  have HL := Lib.hid hL
  have HP := Lib.hid hp
  clear hL hp
  go_enter Try.func19, Try.ntmps19
  go_wp2
  refine gen_world (P := Code.wp Try.prog _ _ _) (Q := TkW w.heap.size n L w (fun _ => 0) (fun _ => 0) [] 0) _ ?_ ?_
  · have e1 : rowOf n (ints fun _ => 0) = rowOf n (fun _ => .int .i64 0) := rfl
    have e2 : rowOf L.length (outs []) = rowOf L.length (fun _ => .int .i64 0) := rfl
    refine ⟨?_, ?_, ?_, ?_⟩
    · rw [e1]; exact ((Blk.new w _ 3).alloc _).alloc _
    · have h := (IMap.made Try.prog .i64 3 (w.alloc (.cells (rowOf n (fun _ => .int .i64 0)).toArray 3))).alloc (.cells (rowOf L.length (fun _ => .int .i64 0)).toArray 3)
      rw [World.size_alloc] at h
      exact h
    · rw [e2]
      have h := Blk.new ((w.alloc (.cells (rowOf n (fun _ => .int .i64 0)).toArray 3)).alloc (.map #[] 0)) (rowOf L.length (fun _ => .int .i64 0)) 3
      rw [World.size_alloc, World.size_alloc] at h
      exact h
    · exact (((Below.refl _ _).alloc (Nat.le_refl _) _).alloc (by simp) _).alloc (by simp; omega) _
  clear hmk1 hmk2 hmm
  intro w1 hI
  generalize hBB : w.heap.size = B at hI ⊢
  have HBB := Lib.hid hBB
  clear hBB
  go_loopw [19] (fun i wr => ∃ (k : Nat) (c s : Int → Int) (T : List Int), k ≤ L.length ∧ i = .int .i64 k ∧ TkS L k c s T ∧ TkW B n L w c s T k wr) (fun i _ => L.length - (intOf i).toNat)
  case atStart => exact ⟨0, _, _, _, Nat.zero_le _, rfl, TkS.start L, hI⟩
  case round =>
    clear hI
    obtain ⟨k, c, s, T, hk, rfl, hS, ⟨hclk, hmap, hout, hb⟩⟩ := hrel
    by_cases hlt : k < L.length
    · obtain ⟨o, ho⟩ : ∃ a, L[k]? = some a := ⟨L[k], List.getElem?_eq_getElem hlt⟩
      obtain ⟨b, off, hao, hcells⟩ := HL.out (by intro e; rw [e] at hlt; simp at hlt)
      obtain ⟨q0, q1, q2⟩ := hcells k o ho
      have hbl := World.block_lt_of_cell? w _ q0
      rw [HBB.out] at hbl
      have r0 := (hb.cell (p := ⟨b, off + k * 3, none⟩) hbl).trans q0
      have r1 := (hb.cell (p := ⟨b, off + k * 3 + 1, none⟩) hbl).trans q1
      have r2 := (hb.cell (p := ⟨b, off + k * 3 + 2, none⟩) hbl).trans q2
      subst hao
      obtain ⟨hp0, hp1, hmsg⟩ := HP.out o (List.mem_of_getElem? ho)
      have ht := hS.tick o
      have hstep := hS.step ho
      have hTl := hS.len
      have hc0 := hS.c0 o.proc
      have hs0 := hS.s0 o.msg
      obtain ⟨pr, kd, ms⟩ := o
      dsimp only at *
      obtain ⟨p, rfl⟩ : ∃ p : Nat, pr = p := ⟨pr.toNat, by omega⟩
      have hpn : p < n := by omega
      have hlo := hout.lt
      have hco := hclk.lt
      have HS := Lib.hid hstep
      have HCLK := Lib.hid hclk
      have HMAP := Lib.hid hmap
      have HOUT := Lib.hid hout
      have HB := Lib.hid hb
      clear q0 q1 q2 hcells ho hS hstep hclk hmap hout hb
      have z0 := HCLK.out.cell (rowOf_get (g := ints c) hpn)
      by_cases k3 : kd = 3
      · have hlk := (HMAP.out.alloc (.cells #[.int .i64 p, .int .i64 kd, .int .i64 ms] 45)).lookup Try.underlying3 Try.underlying71 Try.underlying3 (zero3 _) (wf64 ms (by omega) (by omega))
        subst k3
        unfold ints at z0
        have hmx : tickOf c s ⟨p, 3, ms⟩ = max (c p) (s ms) + 1 := rfl
        rcases Int.lt_or_le (c p) (s ms) with hcmp | hcmp
        · have hT : Hid (tickOf c s ⟨p, 3, ms⟩ = s ms + 1) := Lib.hid (by rw [hmx]; omega)
          clear ht hmx
          go_wp2
          refine gen_world (P := Code.wp Try.prog _ _ _) (Q := Tk5 B n k wr.heap.size L w c s T [.int .i64 p, .int .i64 3, .int .i64 ms]) _ ?_ ?_
          · exact ⟨HCLK.out.alloc _, HMAP.out.alloc _, HOUT.out.alloc _, HB.out.alloc (by omega) _, Blk.new wr [_, _, _] 45⟩
          generalize wr.heap.size = mb at hlo hco
          (try clear hlk)
          clear r0 r1 r2 z0 HCLK HMAP HOUT HB
          clear wr
          intro w2 hall
          have HALL := Lib.hid hall
          obtain ⟨hclk, hmap, hout, hb, hmb⟩ := hall
          have z0 := hclk.cell (rowOf_get (g := ints c) hpn)
          have z1 := hout.cell (rowOf_get (g := outs T) hlt)
          have f0 := hclk.frozen
          have f1 := hout.frozen
          have x0 := hmb.cell (o := 0) rfl
          have x1 := hmb.cell (o := 1) rfl
          have x2 := hmb.cell (o := 2) rfl
          clear hclk hmap hout hb hmb
          unfold ints at z0
          unfold outs at z1
          go_region
          have h3 := tk_stored (pr := p) (s ms + 1) hTl hlo HALL.out
          refine gen_world (P := fun W => Exit.then _ (Exit.inBlock 1 (Exit.then _ _)) Exit.normal _ W) _ h3 ?_
          clear HALL z0 z1 f0 f1 x0 x1 x2 w2 h3
          intro w3 hall
          have HALL := Lib.hid hall
          have x0 := hall.2.2.2.2.cell (o := 0) rfl
          have x1 := hall.2.2.2.2.cell (o := 1) rfl
          have x2 := hall.2.2.2.2.cell (o := 2) rfl
          clear hall
          go_wp2
          go_roundw
          case rel =>
            have hs := HS.out
            rw [hT.out, if_neg (by omega)] at hs
            exact ⟨k + 1, _, _, _, by omega, by go_num, hs, ⟨HALL.out.1, HALL.out.2.1.more, HALL.out.2.2.1, HALL.out.2.2.2.1⟩⟩
          case measure => simp [intOf]; omega
        · have hT : Hid (tickOf c s ⟨p, 3, ms⟩ = c p + 1) := Lib.hid (by rw [hmx]; omega)
          clear ht hmx
          go_wp2
          refine gen_world (P := Code.wp Try.prog _ _ _) (Q := Tk5 B n k wr.heap.size L w c s T [.int .i64 p, .int .i64 3, .int .i64 ms]) _ ?_ ?_
          · exact ⟨HCLK.out.alloc _, HMAP.out.alloc _, HOUT.out.alloc _, HB.out.alloc (by omega) _, Blk.new wr [_, _, _] 45⟩
          generalize wr.heap.size = mb at hlo hco
          (try clear hlk)
          clear r0 r1 r2 z0 HCLK HMAP HOUT HB
          clear wr
          intro w2 hall
          have HALL := Lib.hid hall
          obtain ⟨hclk, hmap, hout, hb, hmb⟩ := hall
          have z0 := hclk.cell (rowOf_get (g := ints c) hpn)
          have z1 := hout.cell (rowOf_get (g := outs T) hlt)
          have f0 := hclk.frozen
          have f1 := hout.frozen
          have x0 := hmb.cell (o := 0) rfl
          have x1 := hmb.cell (o := 1) rfl
          have x2 := hmb.cell (o := 2) rfl
          clear hclk hmap hout hb hmb
          unfold ints at z0
          unfold outs at z1
          go_region
          have h3 := tk_stored (pr := p) (c p + 1) hTl hlo HALL.out
          refine gen_world (P := fun W => Exit.then _ (Exit.inBlock 1 (Exit.then _ _)) Exit.normal _ W) _ h3 ?_
          clear HALL z0 z1 f0 f1 x0 x1 x2 w2 h3
          intro w3 hall
          have HALL := Lib.hid hall
          have x0 := hall.2.2.2.2.cell (o := 0) rfl
          have x1 := hall.2.2.2.2.cell (o := 1) rfl
          have x2 := hall.2.2.2.2.cell (o := 2) rfl
          clear hall
          go_wp2
          go_roundw
          case rel =>
            have hs := HS.out
            rw [hT.out, if_neg (by omega)] at hs
            exact ⟨k + 1, _, _, _, by omega, by go_num, hs, ⟨HALL.out.1, HALL.out.2.1.more, HALL.out.2.2.1, HALL.out.2.2.2.1⟩⟩
          case measure => simp [intOf]; omega
      · by_cases k2 : kd = 2
        · subst k2
          unfold ints at z0
          have hT : Hid (tickOf c s ⟨p, 2, ms⟩ = c p + 1) := Lib.hid (by rfl)
          clear ht
          go_wp2
          refine gen_world (P := Code.wp Try.prog _ _ _) (Q := Tk5 B n k wr.heap.size L w c s T [.int .i64 p, .int .i64 2, .int .i64 ms]) _ ?_ ?_
          · exact ⟨HCLK.out.alloc _, HMAP.out.alloc _, HOUT.out.alloc _, HB.out.alloc (by omega) _, Blk.new wr [_, _, _] 45⟩
          generalize wr.heap.size = mb at hlo hco
          (try clear hlk)
          clear r0 r1 r2 z0 HCLK HMAP HOUT HB
          clear wr
          intro w2 hall
          have HALL := Lib.hid hall
          obtain ⟨hclk, hmap, hout, hb, hmb⟩ := hall
          have z0 := hclk.cell (rowOf_get (g := ints c) hpn)
          have z1 := hout.cell (rowOf_get (g := outs T) hlt)
          have f0 := hclk.frozen
          have f1 := hout.frozen
          have x0 := hmb.cell (o := 0) rfl
          have x1 := hmb.cell (o := 1) rfl
          have x2 := hmb.cell (o := 2) rfl
          clear hclk hmap hout hb hmb
          unfold ints at z0
          unfold outs at z1
          go_region
          have h3 := tk_stored (pr := p) (c p + 1) hTl hlo HALL.out
          refine gen_world (P := fun W => Exit.then _ (Exit.inBlock 1 (Exit.then _ _)) Exit.normal _ W) _ h3 ?_
          clear HALL z0 z1 f0 f1 x0 x1 x2 w2 h3
          intro w3 hall
          have HALL := Lib.hid hall
          have x0 := hall.2.2.2.2.cell (o := 0) rfl
          have x1 := hall.2.2.2.2.cell (o := 1) rfl
          have x2 := hall.2.2.2.2.cell (o := 2) rfl
          have hlm := hall.2.2.2.2.lt
          obtain ⟨w4, hr4, hm4, hg4⟩ := hall.2.1.update Try.underlying3 Try.underlying71 Try.underlying3 (by unfold maxLen; omega) (k := ms) (v := c p + 1) (wf64 ms (by omega) (by omega)) (wf64 _ (by omega) (by omega))
          have HM4 := Lib.hid hm4
          have HG4 := Lib.hid hg4
          clear hm4 hg4 hall
          go_wp2
          go_roundw
          case rel =>
            have hs := HS.out
            rw [hT.out] at hs
            simp only [if_true] at hs
            exact ⟨k + 1, _, _, _, by omega, by go_num, hs, ⟨HALL.out.1.grown HG4.out (by simp), HM4.out, HALL.out.2.2.1.grown HG4.out (by simp), HALL.out.2.2.2.1.grown HG4.out (by omega) (by intro j hj; cases hj; omega)⟩⟩
          case measure => simp [intOf]; omega
        · have k4 : (kd == 3) = false := by simpa using k3
          have k5 : (kd == 2) = false := by simpa using k2
          have K2 := Lib.hid k2
          unfold ints at z0
          have hT : Hid (tickOf c s ⟨p, kd, ms⟩ = c p + 1) := Lib.hid (by unfold tickOf; rw [if_neg k3])
          clear ht k3 k2
          go_wp2
          refine gen_world (P := Code.wp Try.prog _ _ _) (Q := Tk5 B n k wr.heap.size L w c s T [.int .i64 p, .int .i64 kd, .int .i64 ms]) _ ?_ ?_
          · exact ⟨HCLK.out.alloc _, HMAP.out.alloc _, HOUT.out.alloc _, HB.out.alloc (by omega) _, Blk.new wr [_, _, _] 45⟩
          generalize wr.heap.size = mb at hlo hco
          (try clear hlk)
          clear r0 r1 r2 z0 HCLK HMAP HOUT HB
          clear wr
          intro w2 hall
          have HALL := Lib.hid hall
          obtain ⟨hclk, hmap, hout, hb, hmb⟩ := hall
          have z0 := hclk.cell (rowOf_get (g := ints c) hpn)
          have z1 := hout.cell (rowOf_get (g := outs T) hlt)
          have f0 := hclk.frozen
          have f1 := hout.frozen
          have x0 := hmb.cell (o := 0) rfl
          have x1 := hmb.cell (o := 1) rfl
          have x2 := hmb.cell (o := 2) rfl
          clear hclk hmap hout hb hmb
          unfold ints at z0
          unfold outs at z1
          go_region
          have h3 := tk_stored (pr := p) (c p + 1) hTl hlo HALL.out
          refine gen_world (P := fun W => Exit.then _ (Exit.inBlock 1 (Exit.then _ _)) Exit.normal _ W) _ h3 ?_
          clear HALL z0 z1 f0 f1 x0 x1 x2 w2 h3
          intro w3 hall
          have HALL := Lib.hid hall
          have x0 := hall.2.2.2.2.cell (o := 0) rfl
          have x1 := hall.2.2.2.2.cell (o := 1) rfl
          have x2 := hall.2.2.2.2.cell (o := 2) rfl
          clear hall
          go_wp2
          go_roundw
          case rel =>
            have hs := HS.out
            rw [hT.out, if_neg K2.out] at hs
            exact ⟨k + 1, _, _, _, by omega, by go_num, hs, ⟨HALL.out.1, HALL.out.2.1.more, HALL.out.2.2.1, HALL.out.2.2.2.1⟩⟩
          case measure => simp [intOf]; omega
    · obtain rfl : k = L.length := by omega
      have hall := hS.all
      rw [List.drop_length] at hall
      have HALL : Hid (ticks L = T) := Lib.hid (by rw [hall]; exact List.append_nil _)
      have HOUT := Lib.hid hout
      have HB := Lib.hid hb
      clear hclk hmap hout hb hS hall
      go_wp2
      go_ret
      exact ⟨B + 1 + 1, by first | rfl | trivial, by rw [HALL.out]; exact HOUT.out, by have := HBB.out; omega, by rw [HBB.out]; exact HB.out⟩
end Go.Proofs.Ytaodgbeobdholaa.Rn
