/-
  The walk through run's Past.
-/
import Derived.Test.YtaodgbeobdholaaPastModel
import Derived.Test.YtaodgbeobdholaaTicks
namespace Go.Proofs.Ytaodgbeobdholaa.Rn
open Go Go.RowKit Mem

theorem info40 : (Try.prog.info? 40).map (fun i => (i.zero, i.size, i.bytes)) = some (some (.int .u32 0), 1, 4) := by kernel_rfl
theorem zero40 (w : World) : (zeroValue 40).run Try.prog w = .ok (.int .u32 0) w := by kernel_rfl
theorem wf32 (k : Int) (h0 : 0 ≤ k) (h1 : k < 4294967296) : (Lit.int .u32 k).wf = true := by
  have e1 : IntKind.u32.min = 0 := rfl
  have e2 : IntKind.u32.max = 4294967295 := rfl
  simp [Lit.wf, e1, e2]
  omega
def nats (f : Int → Nat) : Nat → Value := fun p => .int .u32 (f p : Nat)
def outsN (T : List Nat) : Nat → Value := fun p => .int .u32 (T.getD p 0 : Nat)
def cast (f : Int → Nat) : Int → Int := fun m => (f m : Int)
theorem upd_cast (f : Int → Nat) (k : Int) (v : Nat) : upd (cast f) k (v : Int) = cast (upN f k v) := by
  funext x; unfold upd cast upN; split <;> rfl
theorem nats_set (c : Int → Nat) (n p t : Nat) : (rowOf n (nats c)).set p (.int .u32 (t : Int)) = rowOf n (nats (upN c p t)) := by
  rw [rowOf_set]
  refine rowOf_congr fun i _ => ?_
  unfold nats upN
  by_cases h : i = p
  · subst h; simp
  · rw [if_neg h, if_neg (by omega)]
theorem outsN_set (T U : List Nat) (hU : U.length ≤ 1) (n t : Nat) : (rowOf n (outsN (T ++ U))).set T.length (.int .u32 (t : Int)) = rowOf n (outsN (T ++ [t])) := by
  rw [rowOf_set]
  refine rowOf_congr fun i _ => ?_
  unfold outsN
  by_cases h : i = T.length
  · subst h; simp [List.getD]
  · rw [if_neg h]
    rcases Nat.lt_or_ge i T.length with h1 | h1
    · simp [List.getD, List.getElem?_append_left h1]
    · simp [List.getD, List.getElem?_append_right h1, List.getElem?_eq_none (show U.length ≤ i - T.length by omega), List.getElem?_eq_none (show [t].length ≤ i - T.length by simp; omega)]
def Pk5 (B n k mb : Nat) (L : List Ev) (w : World) (c s : Int → Nat) (T : List Nat) (evl : List Value) (W : World) : Prop :=
  Blk W B (rowOf n (nats c)) 40 ∧ IMap Try.prog .u32 40 W (B + 1) k (cast s) ∧ Blk W (B + 1 + 1) (rowOf L.length (outsN T)) 40 ∧ Below B w W ∧ Blk W mb evl 45
theorem Pk5.drew {B n k mb : Nat} {L : List Ev} {w W : World} {c s : Int → Nat} {T : List Nat} {evl : List Value} (h : Pk5 B n k mb L w c s T evl W) : Pk5 B n k mb L w c s T evl W.drew :=
  ⟨h.1.drew, h.2.1.drew, h.2.2.1.drew, h.2.2.2.1.drew, h.2.2.2.2.drew⟩
theorem Pk5.out {B n k mb : Nat} {L : List Ev} {w W : World} {c s : Int → Nat} {T U : List Nat} {evl : List Value} (t : Nat) (hTl : T.length = k) (hU : U.length ≤ 1) (hmb0 : B + 1 + 1 < mb) (h : Pk5 B n k mb L w c s (T ++ U) evl W) :
    Pk5 B n k mb L w c s (T ++ [t]) evl (W.setCell ⟨B + 1 + 1, k, none⟩ (.int .u32 (t : Int))) := by
  obtain ⟨h1, h2, h3, h4, h5⟩ := h
  refine ⟨h1.set_ne _ _ (by simp; omega), h2.set_ne _ _ (by simp), ?_, h4.setCell (by simp; omega) _, h5.set_ne _ _ (by simp; omega)⟩
  have h6 := h3.set k (.int .u32 (t : Int))
  rw [← hTl, outsN_set _ _ hU, hTl] at h6
  exact h6
theorem Pk5.last {B n k mb : Nat} {L : List Ev} {w W : World} {c s : Int → Nat} {T : List Nat} {evl : List Value} {p : Nat} (t : Nat) (hmb0 : B + 1 + 1 < mb) (h : Pk5 B n k mb L w c s T evl W) :
    Pk5 B n k mb L w (upN c p t) s T evl (W.setCell ⟨B, p, none⟩ (.int .u32 (t : Int))) := by
  obtain ⟨h1, h2, h3, h4, h5⟩ := h
  refine ⟨?_, h2.set_ne _ _ (by simp), h3.set_ne _ _ (by simp; omega), h4.setCell (by simp) _, h5.set_ne _ _ (by simp; omega)⟩
  have := h1.set p (.int .u32 (t : Int))
  rw [nats_set] at this
  exact this
structure PsW (B : Nat) (n : Nat) (L : List Ev) (w : World) (c s : Int → Nat) (T : List Nat) (k : Nat) (W : World) : Prop where
  clk : Blk W B (rowOf n (nats c)) 40
  map : IMap Try.prog .u32 40 W (B + 1) k (cast s)
  out : Blk W (B + 1 + 1) (rowOf L.length (outsN T)) 40
  below : Below B w W
theorem or_shl (x k : Nat) (hx : x < 4294967296) (hk : k < 30) : bits BinOp.or IntKind.u32 (x : Int) (2 ^ k % 4294967296) = ((x ||| 2 ^ k : Nat) : Int) := by
  have h2 : 2 ^ k < 2 ^ 30 := Nat.pow_lt_pow_right (by omega) hk
  have e : ((2 : Int) ^ k % 4294967296) = ((2 ^ k : Nat) : Int) := by
    rw [show ((2 : Int) ^ k) = ((2 ^ k : Nat) : Int) by simp]
    generalize 2 ^ k = y at h2
    omega
  rw [e, u32_or_nat _ _ hx (by omega)]

set_option maxRecDepth 100000 in
set_option maxHeartbeats 2000000 in
theorem past_any (n : Nat) (ao : Option Addr) (cap : Nat) (L : List Ev) (w : World) (h1 : 1 ≤ n) (h6 : n ≤ 6) (hl : L.length ≤ 30) (hp : ∀ e ∈ L, 0 ≤ e.proc ∧ e.proc < n ∧ (e.kind ≠ 1 → 0 ≤ e.msg ∧ e.msg ≤ 20)) (hL : EvsAt w ao L) :
    Calls Try.prog 25 #[.int .i64 n, .slice ao L.length cap] w fun e w' => ∃ b, e = .returned (.slice (some ⟨b, 0, none⟩) L.length L.length) ∧ Blk w' b (rowOf L.length (outsN (pasts L))) 40 ∧ w.heap.size ≤ b ∧ Below w.heap.size w w' := by
  have hmm := @run_makeMap Try.prog
  have hmk : ∀ (m : Nat), m ≤ 60 → ∀ u : World, (Instr.makeSlice 52 (.int .i64 m) (.int .i64 m)).run Try.prog u = .ok (.slice (some ⟨u.heap.size, 0, none⟩) m m) (u.alloc (.cells (rowOf m (fun _ => .int .u32 0)).toArray 40)) := fun m hm u => by
    obtain ⟨i0, hi0, hz0, hz1, hz2⟩ := info_parts info40
    have h := run_make (P := Try.prog) u 52 40 i0 _ Try.underlying52 hi0 hz0 .i64 .i64 (m : Int) (m : Int) (by omega) (Int.le_refl _) (by rw [hz2]; omega) (by omega)
    simpa [hz1, Value.cells, made_row, rowOf_replicate] using h
  have hmk1 := hmk n (by omega)
  have hmk2 := hmk L.length (by omega)
  clear hmk
  have HL := Lib.hid hL
  have HP := Lib.hid hp
  clear hL hp
  go_enter Try.func25, Try.ntmps25
  go_wp2
  refine gen_world (P := Code.wp Try.prog _ _ _) (Q := PsW w.heap.size n L w (fun _ => 0) (fun _ => 0) [] 0) _ ?_ ?_
  · have e1 : rowOf n (nats fun _ => 0) = rowOf n (fun _ => .int .u32 0) := rfl
    have e2 : rowOf L.length (outsN []) = rowOf L.length (fun _ => .int .u32 0) := rfl
    refine ⟨?_, ?_, ?_, ?_⟩
    · rw [e1]; exact ((Blk.new w _ 40).alloc _).alloc _
    · have h := (IMap.made Try.prog .u32 40 (w.alloc (.cells (rowOf n (fun _ => .int .u32 0)).toArray 40))).alloc (.cells (rowOf L.length (fun _ => .int .u32 0)).toArray 40)
      rw [World.size_alloc] at h
      exact h
    · rw [e2]
      have h := Blk.new ((w.alloc (.cells (rowOf n (fun _ => .int .u32 0)).toArray 40)).alloc (.map #[] 0)) (rowOf L.length (fun _ => .int .u32 0)) 40
      rw [World.size_alloc, World.size_alloc] at h
      exact h
    · exact (((Below.refl _ _).alloc (Nat.le_refl _) _).alloc (by simp) _).alloc (by simp; omega) _
  clear hmk1 hmk2 hmm
  intro w1 hI
  generalize hBB : w.heap.size = B at hI ⊢
  have HBB := Lib.hid hBB
  clear hBB
  go_loopw [18] (fun i wr => ∃ (k : Nat) (c s : Int → Nat) (T : List Nat), k ≤ L.length ∧ i = .int .i64 k ∧ PsS L k c s T ∧ PsW B n L w c s T k wr) (fun i _ => L.length - (intOf i).toNat)
  case atStart => exact ⟨0, _, _, _, Nat.zero_le _, rfl, PsS.start L, hI⟩
  case round =>
    clear hI
    obtain ⟨k, c, s, T, hk, rfl, hS, ⟨hclk, hmap, hout, hb⟩⟩ := hrel
    by_cases hlt : k < L.length
    · obtain ⟨o, ho⟩ : ∃ a, L[k]? = some a := ⟨L[k], List.getElem?_eq_getElem hlt⟩
      obtain ⟨b, off, hao, hcells⟩ := HL.out (by intro e; rw [e] at hlt; simp at hlt)
      obtain ⟨q0, q1, q2⟩ := hcells k o ho
      have hbl := World.block_lt_of_cell? w _ q0
      rw [HBB.out] at hbl
      have r0 := (hb.cell (p := ⟨b, off + k * 3, none⟩) hbl).trans q0
      have r1 := (hb.cell (p := ⟨b, off + k * 3 + 1, none⟩) hbl).trans q1
      have r2 := (hb.cell (p := ⟨b, off + k * 3 + 2, none⟩) hbl).trans q2
      subst hao
      obtain ⟨hp0, hp1, hmsg⟩ := HP.out o (List.mem_of_getElem? ho)
      have hpw : 2 ^ k < 2 ^ 30 := Nat.pow_lt_pow_right (by omega) (by omega)
      have ht := hS.past o
      have hstep := hS.step ho
      have hTl := hS.len
      have hc0 := hS.c0 o.proc
      have hs0 := hS.s0 o.msg
      obtain ⟨pr, kd, ms⟩ := o
      dsimp only at *
      obtain ⟨p, rfl⟩ : ∃ p : Nat, pr = p := ⟨pr.toNat, by omega⟩
      have hpn : p < n := by omega
      have hlo := hout.lt
      have hco := hclk.lt
      have z0 := hclk.cell (rowOf_get (g := nats c) hpn)
      have z1 := hout.cell (rowOf_get (g := outsN T) hlt)
      have f1 := hout.frozen
      have f0 := hclk.frozen
      have HS := Lib.hid hstep
      have HPW := Lib.hid hpw
      have HT := Lib.hid ht
      have HC0 := Lib.hid hc0
      have HS0 := Lib.hid hs0
      have HCLK := Lib.hid hclk
      have HMAP := Lib.hid hmap
      have HOUT := Lib.hid hout
      have HB := Lib.hid hb
      clear q0 q1 q2 hcells ho hS hstep hclk hmap hout hb hpw ht hc0 hs0
      unfold nats at z0
      unfold outsN at z1

      by_cases k3 : kd = 3
      · subst k3
        have HPO : Hid (pastOf c s ⟨p, 3, ms⟩ = c p ||| s ms) := Lib.hid rfl
        rw [HPO.out] at HT
        go_wp2
        refine gen_world (P := Code.wp Try.prog _ _ _) (Q := Pk5 B n k wr.heap.size L w c s (T ++ [c p]) [.int .i64 p, .int .i64 3, .int .i64 ms]) _ ?_ ?_
        · refine ⟨(HCLK.out.set_ne _ _ (by simp; omega)).alloc _, (HMAP.out.set_ne _ _ (by simp)).alloc _, ?_, (HB.out.setCell (by simp; omega) _).alloc (by simp; omega) _, ?_⟩
          · have h6 := (HOUT.out.set k (.int .u32 ((c p : Nat) : Int))).alloc (.cells #[.int .i64 p, .int .i64 3, .int .i64 ms] 45)
            have h7 := outsN_set T [] (by simp) L.length (c p)
            rw [List.append_nil, hTl] at h7
            rw [h7] at h6
            exact h6
          · have h6 := Blk.new (wr.setCell ⟨B + 1 + 1, k, none⟩ (.int .u32 ((c p : Nat) : Int))) [.int .i64 p, .int .i64 3, .int .i64 ms] 45
            rw [World.size_setCell] at h6
            exact h6
        generalize wr.heap.size = mb at hlo hco
        clear r0 r1 r2 z0 z1 f0 f1 HCLK HMAP HOUT HB
        clear wr
        intro w2 hall
        have HALL := Lib.hid hall
        have z0 : w2.cell? ⟨B, p, none⟩ = some (.int .u32 (c p : Nat)) := hall.1.cell (rowOf_get (g := nats c) hpn)
        have z1 : w2.cell? ⟨B + 1 + 1, k, none⟩ = some (.int .u32 (c p : Nat)) := by
          have h := hall.2.2.1.cell (rowOf_get (g := outsN (T ++ [c p])) hlt)
          rw [h]; unfold outsN; rw [← hTl]; simp [List.getD]
        have f0 := hall.1.frozen
        have f1 := hall.2.2.1.frozen
        have x0 := hall.2.2.2.2.cell (o := 0) rfl
        have x1 := hall.2.2.2.2.cell (o := 1) rfl
        have x2 := hall.2.2.2.2.cell (o := 2) rfl
        have hlk := hall.2.1.drew.lookup Try.underlying3 Try.underlying74 Try.underlying40 (zero40 _) (wf64 ms (by omega) (by omega))
        unfold cast at hlk
        have hor : bits BinOp.or IntKind.u32 (c p : Int) (s ms : Int) = ((c p ||| s ms : Nat) : Int) := u32_or_nat _ _ (by have := HC0.out; have := HPW.out; omega) (by have := HS0.out; have := HPW.out; omega)
        clear hall
        go_region
        refine gen_world (P := fun W => Exit.then _ _ Exit.normal _ W) _ ((HALL.out.out (c p ||| s ms) hTl (by simp) hlo).drew) ?_
        clear HALL z0 z1 f0 f1 x0 x1 x2 w2 hlk hor
        intro w2 hall
        have hgo := hall
        clear hgo
        go_wp2
        have HALL := Lib.hid hall
        have z0 : w2.cell? ⟨B, p, none⟩ = some (.int .u32 (c p : Nat)) := hall.1.cell (rowOf_get (g := nats c) hpn)
        have z1 : w2.cell? ⟨B + 1 + 1, k, none⟩ = some (.int .u32 (c p ||| s ms : Nat)) := by
          have h := hall.2.2.1.cell (rowOf_get (g := outsN (T ++ [c p ||| s ms])) hlt)
          rw [h]; unfold outsN; rw [← hTl]; simp [List.getD]
        have f0 := hall.1.frozen
        have f1 := hall.2.2.1.frozen
        have x0 := hall.2.2.2.2.cell (o := 0) rfl
        have x1 := hall.2.2.2.2.cell (o := 1) rfl
        have x2 := hall.2.2.2.2.cell (o := 2) rfl
        have hor := or_shl (c p ||| s ms) k (by have := HT.out; have := HPW.out; omega) (by omega)
        clear hall
        go_region
        refine gen_world (P := fun W => Exit.then _ _ Exit.normal _ W) _ ((HALL.out.last (p := p) (c p ||| s ms ||| 2 ^ k) hlo).drew) ?_
        clear HALL z0 z1 f0 f1 x0 x1 x2 w2 hor
        intro w2 hall
        have HALL := Lib.hid hall
        have x0 := hall.2.2.2.2.cell (o := 0) rfl
        have x1 := hall.2.2.2.2.cell (o := 1) rfl
        have x2 := hall.2.2.2.2.cell (o := 2) rfl
        clear hall
        go_wp2
        go_roundw
        case rel =>
          have hs := HS.out
          rw [HPO.out, if_neg (by omega)] at hs
          exact ⟨k + 1, _, _, _, by omega, by go_num, hs, ⟨HALL.out.1, HALL.out.2.1.more, HALL.out.2.2.1, HALL.out.2.2.2.1⟩⟩
        case measure => simp [intOf]; omega
      · by_cases k2 : kd = 2
        · subst k2
          have HPO : Hid (pastOf c s ⟨p, 2, ms⟩ = c p) := Lib.hid rfl
          have HNX : Hid (c p ||| 2 ^ k < 2 ^ (k + 1)) := Lib.hid (Nat.or_lt_two_pow (Nat.lt_of_lt_of_le HC0.out (Nat.pow_le_pow_right (by omega) (by omega))) (Nat.pow_lt_pow_right (by omega) (by omega)))
          rw [HPO.out] at HT
          go_wp2
          refine gen_world (P := Code.wp Try.prog _ _ _) (Q := Pk5 B n k wr.heap.size L w c s (T ++ [c p]) [.int .i64 p, .int .i64 2, .int .i64 ms]) _ ?_ ?_
          · refine ⟨(HCLK.out.set_ne _ _ (by simp; omega)).alloc _, (HMAP.out.set_ne _ _ (by simp)).alloc _, ?_, (HB.out.setCell (by simp; omega) _).alloc (by simp; omega) _, ?_⟩
            · have h6 := (HOUT.out.set k (.int .u32 ((c p : Nat) : Int))).alloc (.cells #[.int .i64 p, .int .i64 2, .int .i64 ms] 45)
              have h7 := outsN_set T [] (by simp) L.length (c p)
              rw [List.append_nil, hTl] at h7
              rw [h7] at h6
              exact h6
            · have h6 := Blk.new (wr.setCell ⟨B + 1 + 1, k, none⟩ (.int .u32 ((c p : Nat) : Int))) [.int .i64 p, .int .i64 2, .int .i64 ms] 45
              rw [World.size_setCell] at h6
              exact h6
          generalize wr.heap.size = mb at hlo hco
          clear r0 r1 r2 z0 z1 f0 f1 HCLK HMAP HOUT HB
          clear wr
          intro w2 hall
          have HALL := Lib.hid hall
          have z0 : w2.cell? ⟨B, p, none⟩ = some (.int .u32 (c p : Nat)) := hall.1.cell (rowOf_get (g := nats c) hpn)
          have z1 : w2.cell? ⟨B + 1 + 1, k, none⟩ = some (.int .u32 (c p : Nat)) := by
            have h := hall.2.2.1.cell (rowOf_get (g := outsN (T ++ [c p])) hlt)
            rw [h]; unfold outsN; rw [← hTl]; simp [List.getD]
          have f0 := hall.1.frozen
          have f1 := hall.2.2.1.frozen
          have x0 := hall.2.2.2.2.cell (o := 0) rfl
          have x1 := hall.2.2.2.2.cell (o := 1) rfl
          have x2 := hall.2.2.2.2.cell (o := 2) rfl
          have hor := or_shl (c p) k (by have := HT.out; have := HPW.out; omega) (by omega)
          clear hall
          go_region
          refine gen_world (P := fun W => Exit.then _ _ Exit.normal _ W) _ ((HALL.out.last (p := p) (c p ||| 2 ^ k) hlo).drew) ?_
          clear HALL z0 z1 f0 f1 x0 x1 x2 w2 hor
          intro w2 hall
          have HALL := Lib.hid hall
          have x0 := hall.2.2.2.2.cell (o := 0) rfl
          have x1 := hall.2.2.2.2.cell (o := 1) rfl
          have x2 := hall.2.2.2.2.cell (o := 2) rfl
          have z0 : w2.cell? ⟨B, p, none⟩ = some (.int .u32 ((c p ||| 2 ^ k : Nat) : Int)) := by
            have h := hall.1.cell (rowOf_get (g := nats (upN c p (c p ||| 2 ^ k))) hpn)
            rw [h]; unfold nats upN; simp
          have f0 := hall.1.frozen
          have hnx : c p ||| 2 ^ k < 4294967296 := by
            have := HNX.out
            have h30 : 2 ^ (k + 1) ≤ 2 ^ 30 := Nat.pow_le_pow_right (by omega) (by omega)
            omega
          obtain ⟨w4, hr4, hm4, hg4⟩ := hall.2.1.drew.update Try.underlying3 Try.underlying74 Try.underlying40 (by unfold maxLen; omega) (k := ms) (v := ((c p ||| 2 ^ k : Nat) : Int)) (wf64 ms (by omega) (by omega)) (wf32 _ (by omega) (by omega))
          rw [upd_cast] at hm4
          have HM4 := Lib.hid hm4
          have HG4 := Lib.hid hg4
          have hlm : Hid (mb < w2.heap.size) := Lib.hid hall.2.2.2.2.lt
          clear hm4 hg4 hnx hall
          go_wp2
          go_region
          go_wp2
          go_roundw
          case rel =>
            have hs := HS.out
            rw [HPO.out] at hs
            simp only [if_true] at hs
            have h5 := HALL.out.drew
            exact ⟨k + 1, _, _, _, by omega, by go_num, hs, ⟨h5.1.grown HG4.out (by simp), HM4.out, h5.2.2.1.grown HG4.out (by simp), h5.2.2.2.1.grown HG4.out (by have := hlm.out; simp; omega) (by intro j hj; cases hj; omega)⟩⟩
          case measure => simp [intOf]; omega
        · have k4 : (kd == 3) = false := by simpa using k3
          have k5 : (kd == 2) = false := by simpa using k2
          have K2 := Lib.hid k2
          have HPO : Hid (pastOf c s ⟨p, kd, ms⟩ = c p) := Lib.hid (by unfold pastOf; rw [if_neg k3])
          rw [HPO.out] at HT
          clear k3 k2
          go_wp2
          refine gen_world (P := Code.wp Try.prog _ _ _) (Q := Pk5 B n k wr.heap.size L w c s (T ++ [c p]) [.int .i64 p, .int .i64 kd, .int .i64 ms]) _ ?_ ?_
          · refine ⟨(HCLK.out.set_ne _ _ (by simp; omega)).alloc _, (HMAP.out.set_ne _ _ (by simp)).alloc _, ?_, (HB.out.setCell (by simp; omega) _).alloc (by simp; omega) _, ?_⟩
            · have h6 := (HOUT.out.set k (.int .u32 ((c p : Nat) : Int))).alloc (.cells #[.int .i64 p, .int .i64 kd, .int .i64 ms] 45)
              have h7 := outsN_set T [] (by simp) L.length (c p)
              rw [List.append_nil, hTl] at h7
              rw [h7] at h6
              exact h6
            · have h6 := Blk.new (wr.setCell ⟨B + 1 + 1, k, none⟩ (.int .u32 ((c p : Nat) : Int))) [.int .i64 p, .int .i64 kd, .int .i64 ms] 45
              rw [World.size_setCell] at h6
              exact h6
          generalize wr.heap.size = mb at hlo hco
          clear r0 r1 r2 z0 z1 f0 f1 HCLK HMAP HOUT HB
          clear wr
          intro w2 hall
          have HALL := Lib.hid hall
          have z0 : w2.cell? ⟨B, p, none⟩ = some (.int .u32 (c p : Nat)) := hall.1.cell (rowOf_get (g := nats c) hpn)
          have z1 : w2.cell? ⟨B + 1 + 1, k, none⟩ = some (.int .u32 (c p : Nat)) := by
            have h := hall.2.2.1.cell (rowOf_get (g := outsN (T ++ [c p])) hlt)
            rw [h]; unfold outsN; rw [← hTl]; simp [List.getD]
          have f0 := hall.1.frozen
          have f1 := hall.2.2.1.frozen
          have x0 := hall.2.2.2.2.cell (o := 0) rfl
          have x1 := hall.2.2.2.2.cell (o := 1) rfl
          have x2 := hall.2.2.2.2.cell (o := 2) rfl
          have hor := or_shl (c p) k (by have := HT.out; have := HPW.out; omega) (by omega)
          clear hall
          go_region
          refine gen_world (P := fun W => Exit.then _ _ Exit.normal _ W) _ ((HALL.out.last (p := p) (c p ||| 2 ^ k) hlo).drew) ?_
          clear HALL z0 z1 f0 f1 x0 x1 x2 w2 hor
          intro w2 hall
          have HALL := Lib.hid hall
          have x0 := hall.2.2.2.2.cell (o := 0) rfl
          have x1 := hall.2.2.2.2.cell (o := 1) rfl
          have x2 := hall.2.2.2.2.cell (o := 2) rfl
          clear hall
          go_wp2
          go_roundw
          case rel =>
            have hs := HS.out
            rw [HPO.out, if_neg K2.out] at hs
            exact ⟨k + 1, _, _, _, by omega, by go_num, hs, ⟨HALL.out.1, HALL.out.2.1.more, HALL.out.2.2.1, HALL.out.2.2.2.1⟩⟩
          case measure => simp [intOf]; omega
    · obtain rfl : k = L.length := by omega
      have hall := hS.all
      rw [List.drop_length] at hall
      have HALL : Hid (pasts L = T) := Lib.hid (by rw [hall]; exact List.append_nil _)
      have HOUT := Lib.hid hout
      have HB := Lib.hid hb
      clear hclk hmap hout hb hS hall
      go_wp2
      go_ret
      exact ⟨B + 1 + 1, by first | rfl | trivial, by rw [HALL.out]; exact HOUT.out, by have := HBB.out; omega, by rw [HBB.out]; exact HB.out⟩
end Go.Proofs.Ytaodgbeobdholaa.Rn
