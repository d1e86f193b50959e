/-
  The walk through (*all).reach: it computes 'reach' of the plain model, way by way.
-/
import Derived.Test.YtbibibpliahclaaRep
import Derived.Outline
import Derived.Lib.Hide
import Derived.Deep.RegionLaw
import Derived.Deep.AppendLies
import Derived.Deep.RegionHeld3
import Derived.Laws.BitsAllLaws
namespace Go.Proofs.Ytbibibpliahclaa.Cp
open Go Go.RowKit Mem

theorem above_any (s i : Int) (w : World) (h0 : 0 ≤ s) (h1 : s ≤ 10000) (h2 : 0 ≤ i) (h3 : i < 6) :
    Calls Try.prog 17 #[.int .i64 s, .int .i64 i] w fun e w' => e = .returned (.int .i64 (above s i)) ∧ w = w' := by
  by_cases h : s - s % 6 + i ≤ s
  · have ha : Hid (above s i = s - s % 6 + i + 6) := Lib.hid (by simp [above, h])
    go_enter Try.func17, Try.ntmps17
    go_wp2
    go_ret
    exact ⟨by rw [ha.out]; rfl, rfl⟩
  · have ha : Hid (above s i = s - s % 6 + i) := Lib.hid (by simp [above, h])
    have h' : s < s - s % 6 + i := by omega
    clear h
    go_enter Try.func17, Try.ntmps17
    go_wp2
    go_ret
    exact ⟨by rw [ha.out]; rfl, rfl⟩

theorem info35 : (Try.prog.info? 35).map (fun i => (i.zero, i.size, i.bytes)) = some (some (.agg #[.int .i64 0, .int .i64 0, .int .i64 0, .bool false, .int .i64 0]), 5, 40) := by kernel_rfl

theorem or_bit (rd t : Nat) (hr : rd < 64) (ht : t < 6) : bits BinOp.or IntKind.u32 (rd : Int) (2 ^ t % 4294967296) = ((rd ||| 2 ^ t : Nat) : Int) := by
  have h2 : 2 ^ t < 64 := by
    have := Nat.pow_lt_pow_right (a := 2) (by omega) ht
    omega
  have e : ((2 : Int) ^ t % 4294967296) = ((2 ^ t : Nat) : Int) := by
    rw [show ((2 : Int) ^ t) = ((2 ^ t : Nat) : Int) by simp]
    generalize 2 ^ t = x at h2
    omega
  rw [e, u32_or_nat _ _ (by omega) (by omega)]

set_option maxRecDepth 100000 in
set_option maxHeartbeats 1000000 in
theorem reach_1a {B ba bl : Nat} {ov : Value} {s : St} {i t : Nat} {c : Cl} {k : Kept} {w : World} (now : Int) (h : RepC B ba bl ov s i c w) (ht : t < s.l.length) (hk : s.l[t]? = some k) (hn : s.l.length ≤ 6)
    (hm : 0 ≤ c.many) (hm1 : c.many < 100) (hr : c.reached < 64) (hbs0 : 0 ≤ c.bs) (hbs1 : c.bs ≤ 10000) (hks1 : k.stamp ≤ 10000) (hop : s.ops.length ≤ 100) (hp : c.part = 1) (hb : c.bs < k.stamp) (hq : 2 * (c.many + 1) ≤ s.l.length) :
    Calls Try.prog 15 #[.pointer (some ⟨ba, 0, none⟩), .int .i64 i, .int .i64 t, .int .i64 now] w fun e w' => e = .returned (.tuple #[]) ∧ (∃ ov', Rep B ba bl ov' (reach s i t c k now) w' ∧ Lat w ov ov') ∧ Fr ba bl ov w w' := by
  obtain ⟨part, beg, wr, val, rd, many, bs, bv⟩ := c
  obtain ⟨ks, kv⟩ := k
  simp only at hm hm1 hr hp hb hq hbs0 hbs1 hks1
  subst hp
  have hor := or_bit rd t hr (by omega)
  have Hor := Lib.hid hor
  have HB := Lib.hid hb
  clear hor
  have e1 : s.l.set t ⟨ks, kv⟩ = s.l := by
    obtain ⟨h3, h4⟩ := List.getElem?_eq_some_iff.1 hk
    rw [← h4]; exact List.set_getElem_self h3
  have E1 := Lib.hid e1
  clear e1
  obtain ⟨k0, k1, k2, k3, k4, k5, k6, k7, c0, c50, hz, hzl⟩ := h.facts
  have l0 := h.2.kcell t 0 _ _ (by omega) hk rfl
  have l1 := h.2.kcell t 1 _ _ (by omega) hk rfl
  dsimp only [Nat.add_zero] at l0 l1
  have hne := h.2.ne
  have hi := h.1
  have hlo := h.2.loa
  have hlol := h.2.lol
  have H := Lib.hid h
  have Hk := Lib.hid hk
  clear h hk
  go_enter Try.func15, Try.ntmps15
  go_wp2
  go_quiet (fail)
  go_wp2
  go_region
  all_goals go_wp2
  try rw [Hor.out]
  refine gen_world (P := Code.wp Try.prog _ _ _) (Q := fun W => RepC B ba bl ov s i ⟨1, beg, wr, val, rd ||| 2 ^ t, many + 1, bs, bv⟩ W ∧ Fr ba bl ov w W) _ ⟨((H.out.drewN _).upd (c' := ⟨1, beg, wr, val, rd ||| 2 ^ t, many, bs, bv⟩) 4 (by omega) rfl).upd (c' := ⟨1, beg, wr, val, rd ||| 2 ^ t, many + 1, bs, bv⟩) 5 (by omega) rfl, by repeat (first | with_reducible exact Fr.refl _ _ _ _ | with_reducible assumption | with_reducible refine Fr.setA ?_ _ _ | with_reducible refine Fr.setL ?_ _ _ | with_reducible refine Fr.drewN ?_ _ | with_reducible refine Fr.drew ?_)⟩ ?_
  clear k0 k1 k2 k3 k4 k5 k6 k7 c0 c50 hz hzl
  clear l0 l1
  intro w1 ⟨h, hb1⟩
  obtain ⟨k0, k1, k2, k3, k4, k5, k6, k7, c0, c50, hz, hzl⟩ := h.facts
  have H := Lib.hid h
  have l0 := h.2.kcell t 0 _ _ (by omega) Hk.out rfl
  have l1 := h.2.kcell t 1 _ _ (by omega) Hk.out rfl
  dsimp only [Nat.add_zero] at l0 l1
  clear h
  go_quiet (fail)
  go_wp2
  (try simp only [World.drewN_drewN])
  try rw [Hor.out]
  refine gen_world (P := Code.wp Try.prog _ _ _) (Q := fun W => RepC B ba bl ov s i ⟨1, beg, wr, val, rd ||| 2 ^ t, many + 1, ks, kv⟩ W ∧ Fr ba bl ov w W) _ ⟨((H.out.drewN _).upd (c' := ⟨1, beg, wr, val, rd ||| 2 ^ t, many + 1, ks, bv⟩) 6 (by omega) rfl).upd (c' := ⟨1, beg, wr, val, rd ||| 2 ^ t, many + 1, ks, kv⟩) 7 (by omega) rfl, by repeat (first | with_reducible exact Fr.refl _ _ _ _ | with_reducible assumption | with_reducible refine Fr.setA ?_ _ _ | with_reducible refine Fr.setL ?_ _ _ | with_reducible refine Fr.drewN ?_ _ | with_reducible refine Fr.drew ?_)⟩ ?_
  clear k0 k1 k2 k3 k4 k5 k6 k7 c0 c50 hz hzl
  clear l0 l1
  intro w2 ⟨h, hb2⟩
  obtain ⟨k0, k1, k2, k3, k4, k5, k6, k7, c0, c50, hz, hzl⟩ := h.facts
  have H := Lib.hid h
  have l0 := h.2.kcell t 0 _ _ (by omega) Hk.out rfl
  have l1 := h.2.kcell t 1 _ _ (by omega) Hk.out rfl
  dsimp only [Nat.add_zero] at l0 l1
  clear h
  go_quiet (fail)
  go_wp2
  (try simp only [Exit.inBlock, Exit.then])
  refine bodyPost_ret (results_none rfl _ _ _) rfl ?_
  refine ⟨(by first | rfl | exact trivial), ⟨ov, ?_, Lat.refl _ _⟩, by repeat (first | with_reducible exact Fr.refl _ _ _ _ | with_reducible assumption | with_reducible refine Fr.setA ?_ _ _ | with_reducible refine Fr.setL ?_ _ _ | with_reducible refine Fr.drewN ?_ _ | with_reducible refine Fr.drew ?_)⟩
  have hb' : bs < ks := by have := HB.out; omega
  have e : reach s i t ⟨1, beg, wr, val, rd, many, bs, bv⟩ ⟨ks, kv⟩ now = putc s i ⟨1, beg, wr, val, rd ||| 2 ^ t, many + 1, ks, kv⟩ := by
    simp [reach, meet, turn, hb', hq, E1.out, putc]
  rw [e]
  exact (H.out.drewN _).2

set_option maxRecDepth 100000 in
set_option maxHeartbeats 1000000 in
theorem reach_1fa {B ba bl : Nat} {ov : Value} {s : St} {i t : Nat} {c : Cl} {k : Kept} {w : World} (now : Int) (h : RepC B ba bl ov s i c w) (ht : t < s.l.length) (hk : s.l[t]? = some k) (hn : s.l.length ≤ 6)
    (hm : 0 ≤ c.many) (hm1 : c.many < 100) (hr : c.reached < 64) (hbs0 : 0 ≤ c.bs) (hbs1 : c.bs ≤ 10000) (hks1 : k.stamp ≤ 10000) (hop : s.ops.length ≤ 100) (hp : c.part = 1) (hb : c.bs < k.stamp) (hq : s.l.length < 2 * (c.many + 1)) (hw : c.wr = false) :
    Calls Try.prog 15 #[.pointer (some ⟨ba, 0, none⟩), .int .i64 i, .int .i64 t, .int .i64 now] w fun e w' => e = .returned (.tuple #[]) ∧ (∃ ov', Rep B ba bl ov' (reach s i t c k now) w' ∧ Lat w ov ov') ∧ Fr ba bl ov w w' := by
  obtain ⟨part, beg, wr, val, rd, many, bs, bv⟩ := c
  obtain ⟨ks, kv⟩ := k
  simp only at hm hm1 hr hp hb hq hbs0 hbs1 hks1 hw
  subst hp hw
  have hor := or_bit rd t hr (by omega)
  have Hor := Lib.hid hor
  have HB := Lib.hid hb
  clear hor
  have e1 : s.l.set t ⟨ks, kv⟩ = s.l := by
    obtain ⟨h3, h4⟩ := List.getElem?_eq_some_iff.1 hk
    rw [← h4]; exact List.set_getElem_self h3
  have E1 := Lib.hid e1
  clear e1
  obtain ⟨k0, k1, k2, k3, k4, k5, k6, k7, c0, c50, hz, hzl⟩ := h.facts
  have l0 := h.2.kcell t 0 _ _ (by omega) hk rfl
  have l1 := h.2.kcell t 1 _ _ (by omega) hk rfl
  dsimp only [Nat.add_zero] at l0 l1
  have hne := h.2.ne
  have hi := h.1
  have hlo := h.2.loa
  have hlol := h.2.lol
  have H := Lib.hid h
  have Hk := Lib.hid hk
  clear h hk
  go_enter Try.func15, Try.ntmps15
  go_wp2
  go_quiet (fail)
  go_wp2
  go_region
  all_goals go_wp2
  try rw [Hor.out]
  refine gen_world (P := Code.wp Try.prog _ _ _) (Q := fun W => RepC B ba bl ov s i ⟨1, beg, false, val, rd ||| 2 ^ t, many + 1, bs, bv⟩ W ∧ Fr ba bl ov w W) _ ⟨((H.out.drewN _).upd (c' := ⟨1, beg, false, val, rd ||| 2 ^ t, many, bs, bv⟩) 4 (by omega) rfl).upd (c' := ⟨1, beg, false, val, rd ||| 2 ^ t, many + 1, bs, bv⟩) 5 (by omega) rfl, by repeat (first | with_reducible exact Fr.refl _ _ _ _ | with_reducible assumption | with_reducible refine Fr.setA ?_ _ _ | with_reducible refine Fr.setL ?_ _ _ | with_reducible refine Fr.drewN ?_ _ | with_reducible refine Fr.drew ?_)⟩ ?_
  clear k0 k1 k2 k3 k4 k5 k6 k7 c0 c50 hz hzl
  clear l0 l1
  intro w1 ⟨h, hb1⟩
  obtain ⟨k0, k1, k2, k3, k4, k5, k6, k7, c0, c50, hz, hzl⟩ := h.facts
  have H := Lib.hid h
  have l0 := h.2.kcell t 0 _ _ (by omega) Hk.out rfl
  have l1 := h.2.kcell t 1 _ _ (by omega) Hk.out rfl
  dsimp only [Nat.add_zero] at l0 l1
  clear h
  go_quiet (fail)
  go_wp2
  (try simp only [World.drewN_drewN])
  try rw [Hor.out]
  refine gen_world (P := Code.wp Try.prog _ _ _) (Q := fun W => RepC B ba bl ov s i ⟨1, beg, false, val, rd ||| 2 ^ t, many + 1, ks, kv⟩ W ∧ Fr ba bl ov w W) _ ⟨((H.out.drewN _).upd (c' := ⟨1, beg, false, val, rd ||| 2 ^ t, many + 1, ks, bv⟩) 6 (by omega) rfl).upd (c' := ⟨1, beg, false, val, rd ||| 2 ^ t, many + 1, ks, kv⟩) 7 (by omega) rfl, by repeat (first | with_reducible exact Fr.refl _ _ _ _ | with_reducible assumption | with_reducible refine Fr.setA ?_ _ _ | with_reducible refine Fr.setL ?_ _ _ | with_reducible refine Fr.drewN ?_ _ | with_reducible refine Fr.drew ?_)⟩ ?_
  clear k0 k1 k2 k3 k4 k5 k6 k7 c0 c50 hz hzl
  clear l0 l1
  intro w2 ⟨h, hb2⟩
  obtain ⟨k0, k1, k2, k3, k4, k5, k6, k7, c0, c50, hz, hzl⟩ := h.facts
  have H := Lib.hid h
  have l0 := h.2.kcell t 0 _ _ (by omega) Hk.out rfl
  have l1 := h.2.kcell t 1 _ _ (by omega) Hk.out rfl
  dsimp only [Nat.add_zero] at l0 l1
  clear h
  go_quiet (fail)
  go_wp2
  (try simp only [Exit.inBlock, Exit.then])
  refine bodyPost_ret (results_none rfl _ _ _) rfl ?_
  refine ⟨(by first | rfl | exact trivial), ⟨ov, ?_, Lat.refl _ _⟩, by repeat (first | with_reducible exact Fr.refl _ _ _ _ | with_reducible assumption | with_reducible refine Fr.setA ?_ _ _ | with_reducible refine Fr.setL ?_ _ _ | with_reducible refine Fr.drewN ?_ _ | with_reducible refine Fr.drew ?_)⟩
  have hb' : bs < ks := by have := HB.out; omega
  have e : reach s i t ⟨1, beg, false, val, rd, many, bs, bv⟩ ⟨ks, kv⟩ now = putc s i ⟨2, beg, false, val, 0, 0, ks, kv⟩ := by
    simp [reach, meet, turn, hb', hq, E1.out, putc, show ¬ 2 * (many + 1) ≤ (s.l.length : Int) by omega]
  rw [e]
  exact ((((H.out.drewN _).upd (c' := ⟨1, beg, false, val, 0, many + 1, ks, kv⟩) 4 (by omega) rfl).upd (c' := ⟨1, beg, false, val, 0, 0, ks, kv⟩) 5 (by omega) rfl).upd (c' := ⟨2, beg, false, val, 0, 0, ks, kv⟩) 0 (by omega) rfl).2

set_option maxRecDepth 100000 in
set_option maxHeartbeats 1000000 in
theorem reach_1ta {B ba bl : Nat} {ov : Value} {s : St} {i t : Nat} {c : Cl} {k : Kept} {w : World} (now : Int) (h : RepC B ba bl ov s i c w) (ht : t < s.l.length) (hk : s.l[t]? = some k) (hn : s.l.length ≤ 6)
    (hm : 0 ≤ c.many) (hm1 : c.many < 100) (hr : c.reached < 64) (hbs0 : 0 ≤ c.bs) (hbs1 : c.bs ≤ 10000) (hks1 : k.stamp ≤ 10000) (hop : s.ops.length ≤ 100) (hp : c.part = 1) (hb : c.bs < k.stamp) (hq : s.l.length < 2 * (c.many + 1)) (hw : c.wr = true) :
    Calls Try.prog 15 #[.pointer (some ⟨ba, 0, none⟩), .int .i64 i, .int .i64 t, .int .i64 now] w fun e w' => e = .returned (.tuple #[]) ∧ (∃ ov', Rep B ba bl ov' (reach s i t c k now) w' ∧ Lat w ov ov') ∧ Fr ba bl ov w w' := by
  obtain ⟨part, beg, wr, val, rd, many, bs, bv⟩ := c
  obtain ⟨ks, kv⟩ := k
  simp only at hm hm1 hr hp hb hq hbs0 hbs1 hks1 hw
  subst hp hw
  have hor := or_bit rd t hr (by omega)
  have Hor := Lib.hid hor
  have HB := Lib.hid hb
  clear hor
  have e1 : s.l.set t ⟨ks, kv⟩ = s.l := by
    obtain ⟨h3, h4⟩ := List.getElem?_eq_some_iff.1 hk
    rw [← h4]; exact List.set_getElem_self h3
  have E1 := Lib.hid e1
  clear e1
  obtain ⟨k0, k1, k2, k3, k4, k5, k6, k7, c0, c50, hz, hzl⟩ := h.facts
  have l0 := h.2.kcell t 0 _ _ (by omega) hk rfl
  have l1 := h.2.kcell t 1 _ _ (by omega) hk rfl
  dsimp only [Nat.add_zero] at l0 l1
  have hne := h.2.ne
  have hi := h.1
  have hlo := h.2.loa
  have hlol := h.2.lol
  have H := Lib.hid h
  have Hk := Lib.hid hk
  clear h hk
  go_enter Try.func15, Try.ntmps15
  go_wp2
  go_quiet (fail)
  go_wp2
  go_region
  all_goals go_wp2
  try rw [Hor.out]
  refine gen_world (P := Code.wp Try.prog _ _ _) (Q := fun W => RepC B ba bl ov s i ⟨1, beg, true, val, rd ||| 2 ^ t, many + 1, bs, bv⟩ W ∧ Fr ba bl ov w W) _ ⟨((H.out.drewN _).upd (c' := ⟨1, beg, true, val, rd ||| 2 ^ t, many, bs, bv⟩) 4 (by omega) rfl).upd (c' := ⟨1, beg, true, val, rd ||| 2 ^ t, many + 1, bs, bv⟩) 5 (by omega) rfl, by repeat (first | with_reducible exact Fr.refl _ _ _ _ | with_reducible assumption | with_reducible refine Fr.setA ?_ _ _ | with_reducible refine Fr.setL ?_ _ _ | with_reducible refine Fr.drewN ?_ _ | with_reducible refine Fr.drew ?_)⟩ ?_
  clear k0 k1 k2 k3 k4 k5 k6 k7 c0 c50 hz hzl
  clear l0 l1
  intro w1 ⟨h, hb1⟩
  obtain ⟨k0, k1, k2, k3, k4, k5, k6, k7, c0, c50, hz, hzl⟩ := h.facts
  have H := Lib.hid h
  have l0 := h.2.kcell t 0 _ _ (by omega) Hk.out rfl
  have l1 := h.2.kcell t 1 _ _ (by omega) Hk.out rfl
  dsimp only [Nat.add_zero] at l0 l1
  clear h
  go_quiet (fail)
  go_wp2
  (try simp only [World.drewN_drewN])
  try rw [Hor.out]
  refine gen_world (P := Code.wp Try.prog _ _ _) (Q := fun W => RepC B ba bl ov s i ⟨1, beg, true, val, rd ||| 2 ^ t, many + 1, ks, kv⟩ W ∧ Fr ba bl ov w W) _ ⟨((H.out.drewN _).upd (c' := ⟨1, beg, true, val, rd ||| 2 ^ t, many + 1, ks, bv⟩) 6 (by omega) rfl).upd (c' := ⟨1, beg, true, val, rd ||| 2 ^ t, many + 1, ks, kv⟩) 7 (by omega) rfl, by repeat (first | with_reducible exact Fr.refl _ _ _ _ | with_reducible assumption | with_reducible refine Fr.setA ?_ _ _ | with_reducible refine Fr.setL ?_ _ _ | with_reducible refine Fr.drewN ?_ _ | with_reducible refine Fr.drew ?_)⟩ ?_
  clear k0 k1 k2 k3 k4 k5 k6 k7 c0 c50 hz hzl
  clear l0 l1
  intro w2 ⟨h, hb2⟩
  obtain ⟨k0, k1, k2, k3, k4, k5, k6, k7, c0, c50, hz, hzl⟩ := h.facts
  have H := Lib.hid h
  have l0 := h.2.kcell t 0 _ _ (by omega) Hk.out rfl
  have l1 := h.2.kcell t 1 _ _ (by omega) Hk.out rfl
  dsimp only [Nat.add_zero] at l0 l1
  clear h
  go_quiet (fail)
  go_wp2
  try rw [Hor.out]
  refine gen_world (P := Code.wp Try.prog _ _ _) (Q := fun W => RepC B ba bl ov s i ⟨2, beg, true, val, 0, 0, ks, kv⟩ W ∧ Fr ba bl ov w W) _ ⟨(((H.out.drewN _).upd (c' := ⟨1, beg, true, val, 0, many + 1, ks, kv⟩) 4 (by omega) rfl).upd (c' := ⟨1, beg, true, val, 0, 0, ks, kv⟩) 5 (by omega) rfl).upd (c' := ⟨2, beg, true, val, 0, 0, ks, kv⟩) 0 (by omega) rfl, by repeat (first | with_reducible exact Fr.refl _ _ _ _ | with_reducible assumption | with_reducible refine Fr.setA ?_ _ _ | with_reducible refine Fr.setL ?_ _ _ | with_reducible refine Fr.drewN ?_ _ | with_reducible refine Fr.drew ?_)⟩ ?_
  clear k0 k1 k2 k3 k4 k5 k6 k7 c0 c50 hz hzl
  clear l0 l1
  intro w3 ⟨h, hb3⟩
  obtain ⟨k0, k1, k2, k3, k4, k5, k6, k7, c0, c50, hz, hzl⟩ := h.facts
  have H := Lib.hid h
  have l0 := h.2.kcell t 0 _ _ (by omega) Hk.out rfl
  have l1 := h.2.kcell t 1 _ _ (by omega) Hk.out rfl
  dsimp only [Nat.add_zero] at l0 l1
  clear h
  go_region_with (go_at_call 17; refine (above_any _ _ _ (by omega) (by omega) (by omega) (by omega)).mono ?_; rintro e w1 ⟨rfl, rfl⟩)
  all_goals go_wp2
  all_goals (try simp only [Exit.inBlock, Exit.then])
  all_goals refine bodyPost_ret (results_none rfl _ _ _) rfl ?_
  all_goals refine ⟨(by first | rfl | exact trivial), ⟨ov, ?_, Lat.refl _ _⟩, by repeat (first | with_reducible exact Fr.refl _ _ _ _ | with_reducible assumption | with_reducible refine Fr.setA ?_ _ _ | with_reducible refine Fr.setL ?_ _ _ | with_reducible refine Fr.drewN ?_ _ | with_reducible refine Fr.drew ?_)⟩
  all_goals
    have hb' : bs < ks := by have := HB.out; omega
    have e : reach s i t ⟨1, beg, true, val, rd, many, bs, bv⟩ ⟨ks, kv⟩ now = putc s i ⟨2, beg, true, val, 0, 0, above ks i, val⟩ := by
      simp [reach, meet, turn, hb', hq, E1.out, putc, show ¬ 2 * (many + 1) ≤ (s.l.length : Int) by omega]
    rw [e]
  all_goals exact ((H.out.drew.upd (c' := ⟨2, beg, true, val, 0, 0, above ks i, kv⟩) 6 (by omega) rfl).upd (c' := ⟨2, beg, true, val, 0, 0, above ks i, val⟩) 7 (by omega) rfl).2

set_option maxRecDepth 100000 in
set_option maxHeartbeats 1000000 in
theorem reach_1b {B ba bl : Nat} {ov : Value} {s : St} {i t : Nat} {c : Cl} {k : Kept} {w : World} (now : Int) (h : RepC B ba bl ov s i c w) (ht : t < s.l.length) (hk : s.l[t]? = some k) (hn : s.l.length ≤ 6)
    (hm : 0 ≤ c.many) (hm1 : c.many < 100) (hr : c.reached < 64) (hbs0 : 0 ≤ c.bs) (hbs1 : c.bs ≤ 10000) (hks1 : k.stamp ≤ 10000) (hop : s.ops.length ≤ 100) (hp : c.part = 1) (hb : k.stamp ≤ c.bs) (hq : 2 * (c.many + 1) ≤ s.l.length) :
    Calls Try.prog 15 #[.pointer (some ⟨ba, 0, none⟩), .int .i64 i, .int .i64 t, .int .i64 now] w fun e w' => e = .returned (.tuple #[]) ∧ (∃ ov', Rep B ba bl ov' (reach s i t c k now) w' ∧ Lat w ov ov') ∧ Fr ba bl ov w w' := by
  obtain ⟨part, beg, wr, val, rd, many, bs, bv⟩ := c
  obtain ⟨ks, kv⟩ := k
  simp only at hm hm1 hr hp hb hq hbs0 hbs1 hks1
  subst hp
  have hor := or_bit rd t hr (by omega)
  have Hor := Lib.hid hor
  have HB := Lib.hid hb
  clear hor
  have e1 : s.l.set t ⟨ks, kv⟩ = s.l := by
    obtain ⟨h3, h4⟩ := List.getElem?_eq_some_iff.1 hk
    rw [← h4]; exact List.set_getElem_self h3
  have E1 := Lib.hid e1
  clear e1
  obtain ⟨k0, k1, k2, k3, k4, k5, k6, k7, c0, c50, hz, hzl⟩ := h.facts
  have l0 := h.2.kcell t 0 _ _ (by omega) hk rfl
  have l1 := h.2.kcell t 1 _ _ (by omega) hk rfl
  dsimp only [Nat.add_zero] at l0 l1
  have hne := h.2.ne
  have hi := h.1
  have hlo := h.2.loa
  have hlol := h.2.lol
  have H := Lib.hid h
  have Hk := Lib.hid hk
  clear h hk
  go_enter Try.func15, Try.ntmps15
  go_wp2
  go_quiet (fail)
  go_wp2
  go_region
  all_goals go_wp2
  try rw [Hor.out]
  refine gen_world (P := Code.wp Try.prog _ _ _) (Q := fun W => RepC B ba bl ov s i ⟨1, beg, wr, val, rd ||| 2 ^ t, many + 1, bs, bv⟩ W ∧ Fr ba bl ov w W) _ ⟨((H.out.drewN _).upd (c' := ⟨1, beg, wr, val, rd ||| 2 ^ t, many, bs, bv⟩) 4 (by omega) rfl).upd (c' := ⟨1, beg, wr, val, rd ||| 2 ^ t, many + 1, bs, bv⟩) 5 (by omega) rfl, by repeat (first | with_reducible exact Fr.refl _ _ _ _ | with_reducible assumption | with_reducible refine Fr.setA ?_ _ _ | with_reducible refine Fr.setL ?_ _ _ | with_reducible refine Fr.drewN ?_ _ | with_reducible refine Fr.drew ?_)⟩ ?_
  clear k0 k1 k2 k3 k4 k5 k6 k7 c0 c50 hz hzl
  clear l0 l1
  intro w4 ⟨h, hb4⟩
  obtain ⟨k0, k1, k2, k3, k4, k5, k6, k7, c0, c50, hz, hzl⟩ := h.facts
  have H := Lib.hid h
  have l0 := h.2.kcell t 0 _ _ (by omega) Hk.out rfl
  have l1 := h.2.kcell t 1 _ _ (by omega) Hk.out rfl
  dsimp only [Nat.add_zero] at l0 l1
  clear h
  go_quiet (fail)
  go_wp2
  go_quiet (fail)
  go_wp2
  (try simp only [World.drewN_drewN])
  try rw [Hor.out]
  refine gen_world (P := Code.wp Try.prog _ _ _) (Q := fun W => RepC B ba bl ov s i ⟨1, beg, wr, val, rd ||| 2 ^ t, many + 1, bs, bv⟩ W ∧ Fr ba bl ov w W) _ ⟨(H.out.drewN _), by repeat (first | with_reducible exact Fr.refl _ _ _ _ | with_reducible assumption | with_reducible refine Fr.setA ?_ _ _ | with_reducible refine Fr.setL ?_ _ _ | with_reducible refine Fr.drewN ?_ _ | with_reducible refine Fr.drew ?_)⟩ ?_
  clear k0 k1 k2 k3 k4 k5 k6 k7 c0 c50 hz hzl
  clear l0 l1
  intro w5 ⟨h, hb5⟩
  obtain ⟨k0, k1, k2, k3, k4, k5, k6, k7, c0, c50, hz, hzl⟩ := h.facts
  have H := Lib.hid h
  have l0 := h.2.kcell t 0 _ _ (by omega) Hk.out rfl
  have l1 := h.2.kcell t 1 _ _ (by omega) Hk.out rfl
  dsimp only [Nat.add_zero] at l0 l1
  clear h
  go_quiet (fail)
  go_wp2
  (try simp only [Exit.inBlock, Exit.then])
  refine bodyPost_ret (results_none rfl _ _ _) rfl ?_
  refine ⟨(by first | rfl | exact trivial), ⟨ov, ?_, Lat.refl _ _⟩, by repeat (first | with_reducible exact Fr.refl _ _ _ _ | with_reducible assumption | with_reducible refine Fr.setA ?_ _ _ | with_reducible refine Fr.setL ?_ _ _ | with_reducible refine Fr.drewN ?_ _ | with_reducible refine Fr.drew ?_)⟩
  have hb' : ¬ bs < ks := by have := HB.out; omega
  have e : reach s i t ⟨1, beg, wr, val, rd, many, bs, bv⟩ ⟨ks, kv⟩ now = putc s i ⟨1, beg, wr, val, rd ||| 2 ^ t, many + 1, bs, bv⟩ := by
    simp [reach, meet, turn, hb', hq, E1.out, putc]
  rw [e]
  exact (H.out.drewN _).2

set_option maxRecDepth 100000 in
set_option maxHeartbeats 1000000 in
theorem reach_1fb {B ba bl : Nat} {ov : Value} {s : St} {i t : Nat} {c : Cl} {k : Kept} {w : World} (now : Int) (h : RepC B ba bl ov s i c w) (ht : t < s.l.length) (hk : s.l[t]? = some k) (hn : s.l.length ≤ 6)
    (hm : 0 ≤ c.many) (hm1 : c.many < 100) (hr : c.reached < 64) (hbs0 : 0 ≤ c.bs) (hbs1 : c.bs ≤ 10000) (hks1 : k.stamp ≤ 10000) (hop : s.ops.length ≤ 100) (hp : c.part = 1) (hb : k.stamp ≤ c.bs) (hq : s.l.length < 2 * (c.many + 1)) (hw : c.wr = false) :
    Calls Try.prog 15 #[.pointer (some ⟨ba, 0, none⟩), .int .i64 i, .int .i64 t, .int .i64 now] w fun e w' => e = .returned (.tuple #[]) ∧ (∃ ov', Rep B ba bl ov' (reach s i t c k now) w' ∧ Lat w ov ov') ∧ Fr ba bl ov w w' := by
  obtain ⟨part, beg, wr, val, rd, many, bs, bv⟩ := c
  obtain ⟨ks, kv⟩ := k
  simp only at hm hm1 hr hp hb hq hbs0 hbs1 hks1 hw
  subst hp hw
  have hor := or_bit rd t hr (by omega)
  have Hor := Lib.hid hor
  have HB := Lib.hid hb
  clear hor
  have e1 : s.l.set t ⟨ks, kv⟩ = s.l := by
    obtain ⟨h3, h4⟩ := List.getElem?_eq_some_iff.1 hk
    rw [← h4]; exact List.set_getElem_self h3
  have E1 := Lib.hid e1
  clear e1
  obtain ⟨k0, k1, k2, k3, k4, k5, k6, k7, c0, c50, hz, hzl⟩ := h.facts
  have l0 := h.2.kcell t 0 _ _ (by omega) hk rfl
  have l1 := h.2.kcell t 1 _ _ (by omega) hk rfl
  dsimp only [Nat.add_zero] at l0 l1
  have hne := h.2.ne
  have hi := h.1
  have hlo := h.2.loa
  have hlol := h.2.lol
  have H := Lib.hid h
  have Hk := Lib.hid hk
  clear h hk
  go_enter Try.func15, Try.ntmps15
  go_wp2
  go_quiet (fail)
  go_wp2
  go_region
  all_goals go_wp2
  try rw [Hor.out]
  refine gen_world (P := Code.wp Try.prog _ _ _) (Q := fun W => RepC B ba bl ov s i ⟨1, beg, false, val, rd ||| 2 ^ t, many + 1, bs, bv⟩ W ∧ Fr ba bl ov w W) _ ⟨((H.out.drewN _).upd (c' := ⟨1, beg, false, val, rd ||| 2 ^ t, many, bs, bv⟩) 4 (by omega) rfl).upd (c' := ⟨1, beg, false, val, rd ||| 2 ^ t, many + 1, bs, bv⟩) 5 (by omega) rfl, by repeat (first | with_reducible exact Fr.refl _ _ _ _ | with_reducible assumption | with_reducible refine Fr.setA ?_ _ _ | with_reducible refine Fr.setL ?_ _ _ | with_reducible refine Fr.drewN ?_ _ | with_reducible refine Fr.drew ?_)⟩ ?_
  clear k0 k1 k2 k3 k4 k5 k6 k7 c0 c50 hz hzl
  clear l0 l1
  intro w4 ⟨h, hb4⟩
  obtain ⟨k0, k1, k2, k3, k4, k5, k6, k7, c0, c50, hz, hzl⟩ := h.facts
  have H := Lib.hid h
  have l0 := h.2.kcell t 0 _ _ (by omega) Hk.out rfl
  have l1 := h.2.kcell t 1 _ _ (by omega) Hk.out rfl
  dsimp only [Nat.add_zero] at l0 l1
  clear h
  go_quiet (fail)
  go_wp2
  go_quiet (fail)
  go_wp2
  (try simp only [World.drewN_drewN])
  try rw [Hor.out]
  refine gen_world (P := Code.wp Try.prog _ _ _) (Q := fun W => RepC B ba bl ov s i ⟨1, beg, false, val, rd ||| 2 ^ t, many + 1, bs, bv⟩ W ∧ Fr ba bl ov w W) _ ⟨(H.out.drewN _), by repeat (first | with_reducible exact Fr.refl _ _ _ _ | with_reducible assumption | with_reducible refine Fr.setA ?_ _ _ | with_reducible refine Fr.setL ?_ _ _ | with_reducible refine Fr.drewN ?_ _ | with_reducible refine Fr.drew ?_)⟩ ?_
  clear k0 k1 k2 k3 k4 k5 k6 k7 c0 c50 hz hzl
  clear l0 l1
  intro w5 ⟨h, hb5⟩
  obtain ⟨k0, k1, k2, k3, k4, k5, k6, k7, c0, c50, hz, hzl⟩ := h.facts
  have H := Lib.hid h
  have l0 := h.2.kcell t 0 _ _ (by omega) Hk.out rfl
  have l1 := h.2.kcell t 1 _ _ (by omega) Hk.out rfl
  dsimp only [Nat.add_zero] at l0 l1
  clear h
  go_quiet (fail)
  go_wp2
  (try simp only [Exit.inBlock, Exit.then])
  refine bodyPost_ret (results_none rfl _ _ _) rfl ?_
  refine ⟨(by first | rfl | exact trivial), ⟨ov, ?_, Lat.refl _ _⟩, by repeat (first | with_reducible exact Fr.refl _ _ _ _ | with_reducible assumption | with_reducible refine Fr.setA ?_ _ _ | with_reducible refine Fr.setL ?_ _ _ | with_reducible refine Fr.drewN ?_ _ | with_reducible refine Fr.drew ?_)⟩
  have hb' : ¬ bs < ks := by have := HB.out; omega
  have e : reach s i t ⟨1, beg, false, val, rd, many, bs, bv⟩ ⟨ks, kv⟩ now = putc s i ⟨2, beg, false, val, 0, 0, bs, bv⟩ := by
    simp [reach, meet, turn, hb', hq, E1.out, putc, show ¬ 2 * (many + 1) ≤ (s.l.length : Int) by omega]
  rw [e]
  exact ((((H.out.drewN _).upd (c' := ⟨1, beg, false, val, 0, many + 1, bs, bv⟩) 4 (by omega) rfl).upd (c' := ⟨1, beg, false, val, 0, 0, bs, bv⟩) 5 (by omega) rfl).upd (c' := ⟨2, beg, false, val, 0, 0, bs, bv⟩) 0 (by omega) rfl).2

set_option maxRecDepth 100000 in
set_option maxHeartbeats 1000000 in
theorem reach_1tb {B ba bl : Nat} {ov : Value} {s : St} {i t : Nat} {c : Cl} {k : Kept} {w : World} (now : Int) (h : RepC B ba bl ov s i c w) (ht : t < s.l.length) (hk : s.l[t]? = some k) (hn : s.l.length ≤ 6)
    (hm : 0 ≤ c.many) (hm1 : c.many < 100) (hr : c.reached < 64) (hbs0 : 0 ≤ c.bs) (hbs1 : c.bs ≤ 10000) (hks1 : k.stamp ≤ 10000) (hop : s.ops.length ≤ 100) (hp : c.part = 1) (hb : k.stamp ≤ c.bs) (hq : s.l.length < 2 * (c.many + 1)) (hw : c.wr = true) :
    Calls Try.prog 15 #[.pointer (some ⟨ba, 0, none⟩), .int .i64 i, .int .i64 t, .int .i64 now] w fun e w' => e = .returned (.tuple #[]) ∧ (∃ ov', Rep B ba bl ov' (reach s i t c k now) w' ∧ Lat w ov ov') ∧ Fr ba bl ov w w' := by
  obtain ⟨part, beg, wr, val, rd, many, bs, bv⟩ := c
  obtain ⟨ks, kv⟩ := k
  simp only at hm hm1 hr hp hb hq hbs0 hbs1 hks1 hw
  subst hp hw
  have hor := or_bit rd t hr (by omega)
  have Hor := Lib.hid hor
  have HB := Lib.hid hb
  clear hor
  have e1 : s.l.set t ⟨ks, kv⟩ = s.l := by
    obtain ⟨h3, h4⟩ := List.getElem?_eq_some_iff.1 hk
    rw [← h4]; exact List.set_getElem_self h3
  have E1 := Lib.hid e1
  clear e1
  obtain ⟨k0, k1, k2, k3, k4, k5, k6, k7, c0, c50, hz, hzl⟩ := h.facts
  have l0 := h.2.kcell t 0 _ _ (by omega) hk rfl
  have l1 := h.2.kcell t 1 _ _ (by omega) hk rfl
  dsimp only [Nat.add_zero] at l0 l1
  have hne := h.2.ne
  have hi := h.1
  have hlo := h.2.loa
  have hlol := h.2.lol
  have H := Lib.hid h
  have Hk := Lib.hid hk
  clear h hk
  go_enter Try.func15, Try.ntmps15
  go_wp2
  go_quiet (fail)
  go_wp2
  go_region
  all_goals go_wp2
  try rw [Hor.out]
  refine gen_world (P := Code.wp Try.prog _ _ _) (Q := fun W => RepC B ba bl ov s i ⟨1, beg, true, val, rd ||| 2 ^ t, many + 1, bs, bv⟩ W ∧ Fr ba bl ov w W) _ ⟨((H.out.drewN _).upd (c' := ⟨1, beg, true, val, rd ||| 2 ^ t, many, bs, bv⟩) 4 (by omega) rfl).upd (c' := ⟨1, beg, true, val, rd ||| 2 ^ t, many + 1, bs, bv⟩) 5 (by omega) rfl, by repeat (first | with_reducible exact Fr.refl _ _ _ _ | with_reducible assumption | with_reducible refine Fr.setA ?_ _ _ | with_reducible refine Fr.setL ?_ _ _ | with_reducible refine Fr.drewN ?_ _ | with_reducible refine Fr.drew ?_)⟩ ?_
  clear k0 k1 k2 k3 k4 k5 k6 k7 c0 c50 hz hzl
  clear l0 l1
  intro w4 ⟨h, hb4⟩
  obtain ⟨k0, k1, k2, k3, k4, k5, k6, k7, c0, c50, hz, hzl⟩ := h.facts
  have H := Lib.hid h
  have l0 := h.2.kcell t 0 _ _ (by omega) Hk.out rfl
  have l1 := h.2.kcell t 1 _ _ (by omega) Hk.out rfl
  dsimp only [Nat.add_zero] at l0 l1
  clear h
  go_quiet (fail)
  go_wp2
  go_quiet (fail)
  go_wp2
  (try simp only [World.drewN_drewN])
  try rw [Hor.out]
  refine gen_world (P := Code.wp Try.prog _ _ _) (Q := fun W => RepC B ba bl ov s i ⟨1, beg, true, val, rd ||| 2 ^ t, many + 1, bs, bv⟩ W ∧ Fr ba bl ov w W) _ ⟨(H.out.drewN _), by repeat (first | with_reducible exact Fr.refl _ _ _ _ | with_reducible assumption | with_reducible refine Fr.setA ?_ _ _ | with_reducible refine Fr.setL ?_ _ _ | with_reducible refine Fr.drewN ?_ _ | with_reducible refine Fr.drew ?_)⟩ ?_
  clear k0 k1 k2 k3 k4 k5 k6 k7 c0 c50 hz hzl
  clear l0 l1
  intro w5 ⟨h, hb5⟩
  obtain ⟨k0, k1, k2, k3, k4, k5, k6, k7, c0, c50, hz, hzl⟩ := h.facts
  have H := Lib.hid h
  have l0 := h.2.kcell t 0 _ _ (by omega) Hk.out rfl
  have l1 := h.2.kcell t 1 _ _ (by omega) Hk.out rfl
  dsimp only [Nat.add_zero] at l0 l1
  clear h
  go_quiet (fail)
  go_wp2
  try rw [Hor.out]
  refine gen_world (P := Code.wp Try.prog _ _ _) (Q := fun W => RepC B ba bl ov s i ⟨2, beg, true, val, 0, 0, bs, bv⟩ W ∧ Fr ba bl ov w W) _ ⟨(((H.out.drewN _).upd (c' := ⟨1, beg, true, val, 0, many + 1, bs, bv⟩) 4 (by omega) rfl).upd (c' := ⟨1, beg, true, val, 0, 0, bs, bv⟩) 5 (by omega) rfl).upd (c' := ⟨2, beg, true, val, 0, 0, bs, bv⟩) 0 (by omega) rfl, by repeat (first | with_reducible exact Fr.refl _ _ _ _ | with_reducible assumption | with_reducible refine Fr.setA ?_ _ _ | with_reducible refine Fr.setL ?_ _ _ | with_reducible refine Fr.drewN ?_ _ | with_reducible refine Fr.drew ?_)⟩ ?_
  clear k0 k1 k2 k3 k4 k5 k6 k7 c0 c50 hz hzl
  clear l0 l1
  intro w6 ⟨h, hb6⟩
  obtain ⟨k0, k1, k2, k3, k4, k5, k6, k7, c0, c50, hz, hzl⟩ := h.facts
  have H := Lib.hid h
  have l0 := h.2.kcell t 0 _ _ (by omega) Hk.out rfl
  have l1 := h.2.kcell t 1 _ _ (by omega) Hk.out rfl
  dsimp only [Nat.add_zero] at l0 l1
  clear h
  go_region_with (go_at_call 17; refine (above_any _ _ _ (by omega) (by omega) (by omega) (by omega)).mono ?_; rintro e w1 ⟨rfl, rfl⟩)
  all_goals go_wp2
  all_goals (try simp only [Exit.inBlock, Exit.then])
  all_goals refine bodyPost_ret (results_none rfl _ _ _) rfl ?_
  all_goals refine ⟨(by first | rfl | exact trivial), ⟨ov, ?_, Lat.refl _ _⟩, by repeat (first | with_reducible exact Fr.refl _ _ _ _ | with_reducible assumption | with_reducible refine Fr.setA ?_ _ _ | with_reducible refine Fr.setL ?_ _ _ | with_reducible refine Fr.drewN ?_ _ | with_reducible refine Fr.drew ?_)⟩
  all_goals
    have hb' : ¬ bs < ks := by have := HB.out; omega
    have e : reach s i t ⟨1, beg, true, val, rd, many, bs, bv⟩ ⟨ks, kv⟩ now = putc s i ⟨2, beg, true, val, 0, 0, above bs i, val⟩ := by
      simp [reach, meet, turn, hb', hq, E1.out, putc, show ¬ 2 * (many + 1) ≤ (s.l.length : Int) by omega]
    rw [e]
  all_goals exact ((H.out.drew.upd (c' := ⟨2, beg, true, val, 0, 0, above bs i, bv⟩) 6 (by omega) rfl).upd (c' := ⟨2, beg, true, val, 0, 0, above bs i, val⟩) 7 (by omega) rfl).2

set_option maxRecDepth 100000 in
set_option maxHeartbeats 1000000 in
theorem reach_2a {B ba bl : Nat} {ov : Value} {s : St} {i t : Nat} {c : Cl} {k : Kept} {w : World} (now : Int) (h : RepC B ba bl ov s i c w) (ht : t < s.l.length) (hk : s.l[t]? = some k) (hn : s.l.length ≤ 6)
    (hm : 0 ≤ c.many) (hm1 : c.many < 100) (hr : c.reached < 64) (hbs0 : 0 ≤ c.bs) (hbs1 : c.bs ≤ 10000) (hks1 : k.stamp ≤ 10000) (hop : s.ops.length ≤ 100) (hp : c.part = 2) (hb : k.stamp < c.bs) (hq : 2 * (c.many + 1) ≤ s.l.length) :
    Calls Try.prog 15 #[.pointer (some ⟨ba, 0, none⟩), .int .i64 i, .int .i64 t, .int .i64 now] w fun e w' => e = .returned (.tuple #[]) ∧ (∃ ov', Rep B ba bl ov' (reach s i t c k now) w' ∧ Lat w ov ov') ∧ Fr ba bl ov w w' := by
  obtain ⟨part, beg, wr, val, rd, many, bs, bv⟩ := c
  obtain ⟨ks, kv⟩ := k
  simp only at hm hm1 hr hp hb hq hbs0 hbs1 hks1
  subst hp
  have hor := or_bit rd t hr (by omega)
  have Hor := Lib.hid hor
  have HB := Lib.hid hb
  clear hor
  have e1 : s.l.set t ⟨ks, kv⟩ = s.l := by
    obtain ⟨h3, h4⟩ := List.getElem?_eq_some_iff.1 hk
    rw [← h4]; exact List.set_getElem_self h3
  have E1 := Lib.hid e1
  clear e1
  obtain ⟨k0, k1, k2, k3, k4, k5, k6, k7, c0, c50, hz, hzl⟩ := h.facts
  have l0 := h.2.kcell t 0 _ _ (by omega) hk rfl
  have l1 := h.2.kcell t 1 _ _ (by omega) hk rfl
  dsimp only [Nat.add_zero] at l0 l1
  have hne := h.2.ne
  have hi := h.1
  have hlo := h.2.loa
  have hlol := h.2.lol
  have H := Lib.hid h
  have Hk := Lib.hid hk
  clear h hk
  go_enter Try.func15, Try.ntmps15
  go_wp2
  go_quiet (fail)
  go_wp2
  go_region
  all_goals go_wp2
  try rw [Hor.out]
  refine gen_world (P := Code.wp Try.prog _ _ _) (Q := fun W => RepC B ba bl ov s i ⟨2, beg, wr, val, rd ||| 2 ^ t, many + 1, bs, bv⟩ W ∧ Fr ba bl ov w W) _ ⟨((H.out.drewN _).upd (c' := ⟨2, beg, wr, val, rd ||| 2 ^ t, many, bs, bv⟩) 4 (by omega) rfl).upd (c' := ⟨2, beg, wr, val, rd ||| 2 ^ t, many + 1, bs, bv⟩) 5 (by omega) rfl, by repeat (first | with_reducible exact Fr.refl _ _ _ _ | with_reducible assumption | with_reducible refine Fr.setA ?_ _ _ | with_reducible refine Fr.setL ?_ _ _ | with_reducible refine Fr.drewN ?_ _ | with_reducible refine Fr.drew ?_)⟩ ?_
  clear k0 k1 k2 k3 k4 k5 k6 k7 c0 c50 hz hzl
  clear l0 l1
  intro w7 ⟨h, hb7⟩
  obtain ⟨k0, k1, k2, k3, k4, k5, k6, k7, c0, c50, hz, hzl⟩ := h.facts
  have H := Lib.hid h
  have l0 := h.2.kcell t 0 _ _ (by omega) Hk.out rfl
  have l1 := h.2.kcell t 1 _ _ (by omega) Hk.out rfl
  dsimp only [Nat.add_zero] at l0 l1
  clear h
  go_quiet (fail)
  go_wp2
  go_quiet (fail)
  go_wp2
  (try simp only [World.drewN_drewN])
  try rw [Hor.out]
  refine gen_world (P := Code.wp Try.prog _ _ _) (Q := fun W => RepC B ba bl ov { s with l := s.l.set t ⟨bs, bv⟩ } i ⟨2, beg, wr, val, rd ||| 2 ^ t, many + 1, bs, bv⟩ W ∧ Fr ba bl ov w W) _ ⟨(H.out.drewN _).kset2 t _ _ _ Hk.out, by repeat (first | with_reducible exact Fr.refl _ _ _ _ | with_reducible assumption | with_reducible refine Fr.setA ?_ _ _ | with_reducible refine Fr.setL ?_ _ _ | with_reducible refine Fr.drewN ?_ _ | with_reducible refine Fr.drew ?_)⟩ ?_
  clear k0 k1 k2 k3 k4 k5 k6 k7 c0 c50 hz hzl
  clear l0 l1
  intro w8 ⟨h, hb8⟩
  obtain ⟨k0, k1, k2, k3, k4, k5, k6, k7, c0, c50, hz, hzl⟩ := h.facts
  simp only [List.length_set] at c0
  have H := Lib.hid h
  have l0 := h.2.kcell t 0 _ _ (by omega) (List.getElem?_set_self ht) rfl
  have l1 := h.2.kcell t 1 _ _ (by omega) (List.getElem?_set_self ht) rfl
  dsimp only [Nat.add_zero] at l0 l1
  clear h
  go_quiet (fail)
  go_wp2
  (try simp only [Exit.inBlock, Exit.then])
  refine bodyPost_ret (results_none rfl _ _ _) rfl ?_
  refine ⟨(by first | rfl | exact trivial), ⟨ov, ?_, Lat.refl _ _⟩, by repeat (first | with_reducible exact Fr.refl _ _ _ _ | with_reducible assumption | with_reducible refine Fr.setA ?_ _ _ | with_reducible refine Fr.setL ?_ _ _ | with_reducible refine Fr.drewN ?_ _ | with_reducible refine Fr.drew ?_)⟩
  have hb' : ks < bs := by have := HB.out; omega
  have e : reach s i t ⟨2, beg, wr, val, rd, many, bs, bv⟩ ⟨ks, kv⟩ now = { putc s i ⟨2, beg, wr, val, rd ||| 2 ^ t, many + 1, bs, bv⟩ with l := s.l.set t ⟨bs, bv⟩ } := by
    simp [reach, meet, turn, hb', hq, E1.out, putc]
  rw [e]
  exact (H.out.drewN _).2

set_option maxRecDepth 100000 in
set_option maxHeartbeats 1000000 in
theorem reach_2ga {B ba bl : Nat} {ov : Value} {s : St} {i t : Nat} {c : Cl} {k : Kept} {w : World} (now : Int) (h : RepC B ba bl ov s i c w) (ht : t < s.l.length) (hk : s.l[t]? = some k) (hn : s.l.length ≤ 6)
    (hm : 0 ≤ c.many) (hm1 : c.many < 100) (hr : c.reached < 64) (hbs0 : 0 ≤ c.bs) (hbs1 : c.bs ≤ 10000) (hks1 : k.stamp ≤ 10000) (hop : s.ops.length ≤ 100) (hp : c.part = 2) (hb : k.stamp < c.bs) (hq : s.l.length < 2 * (c.many + 1)) :
    Calls Try.prog 15 #[.pointer (some ⟨ba, 0, none⟩), .int .i64 i, .int .i64 t, .int .i64 now] w fun e w' => e = .returned (.tuple #[]) ∧ (∃ ov', Rep B ba bl ov' (reach s i t c k now) w' ∧ Lat w ov ov') ∧ Fr ba bl ov w w' := by
  obtain ⟨part, beg, wr, val, rd, many, bs, bv⟩ := c
  obtain ⟨ks, kv⟩ := k
  simp only at hm hm1 hr hp hb hq hbs0 hbs1 hks1
  subst hp
  have hor := or_bit rd t hr (by omega)
  have Hor := Lib.hid hor
  have HB := Lib.hid hb
  clear hor
  have e1 : s.l.set t ⟨ks, kv⟩ = s.l := by
    obtain ⟨h3, h4⟩ := List.getElem?_eq_some_iff.1 hk
    rw [← h4]; exact List.set_getElem_self h3
  have E1 := Lib.hid e1
  clear e1
  obtain ⟨k0, k1, k2, k3, k4, k5, k6, k7, c0, c50, hz, hzl⟩ := h.facts
  have l0 := h.2.kcell t 0 _ _ (by omega) hk rfl
  have l1 := h.2.kcell t 1 _ _ (by omega) hk rfl
  dsimp only [Nat.add_zero] at l0 l1
  have hne := h.2.ne
  have hi := h.1
  have hlo := h.2.loa
  have hlol := h.2.lol
  have H := Lib.hid h
  have Hk := Lib.hid hk
  clear h hk
  go_enter Try.func15, Try.ntmps15
  go_wp2
  go_quiet (fail)
  go_wp2
  go_region
  all_goals go_wp2
  try rw [Hor.out]
  refine gen_world (P := Code.wp Try.prog _ _ _) (Q := fun W => RepC B ba bl ov s i ⟨2, beg, wr, val, rd ||| 2 ^ t, many + 1, bs, bv⟩ W ∧ Fr ba bl ov w W) _ ⟨((H.out.drewN _).upd (c' := ⟨2, beg, wr, val, rd ||| 2 ^ t, many, bs, bv⟩) 4 (by omega) rfl).upd (c' := ⟨2, beg, wr, val, rd ||| 2 ^ t, many + 1, bs, bv⟩) 5 (by omega) rfl, by repeat (first | with_reducible exact Fr.refl _ _ _ _ | with_reducible assumption | with_reducible refine Fr.setA ?_ _ _ | with_reducible refine Fr.setL ?_ _ _ | with_reducible refine Fr.drewN ?_ _ | with_reducible refine Fr.drew ?_)⟩ ?_
  clear k0 k1 k2 k3 k4 k5 k6 k7 c0 c50 hz hzl
  clear l0 l1
  intro w7 ⟨h, hb7⟩
  obtain ⟨k0, k1, k2, k3, k4, k5, k6, k7, c0, c50, hz, hzl⟩ := h.facts
  have H := Lib.hid h
  have l0 := h.2.kcell t 0 _ _ (by omega) Hk.out rfl
  have l1 := h.2.kcell t 1 _ _ (by omega) Hk.out rfl
  dsimp only [Nat.add_zero] at l0 l1
  clear h
  go_quiet (fail)
  go_wp2
  go_quiet (fail)
  go_wp2
  (try simp only [World.drewN_drewN])
  try rw [Hor.out]
  refine gen_world (P := Code.wp Try.prog _ _ _) (Q := fun W => RepC B ba bl ov { s with l := s.l.set t ⟨bs, bv⟩ } i ⟨2, beg, wr, val, rd ||| 2 ^ t, many + 1, bs, bv⟩ W ∧ Fr ba bl ov w W) _ ⟨(H.out.drewN _).kset2 t _ _ _ Hk.out, by repeat (first | with_reducible exact Fr.refl _ _ _ _ | with_reducible assumption | with_reducible refine Fr.setA ?_ _ _ | with_reducible refine Fr.setL ?_ _ _ | with_reducible refine Fr.drewN ?_ _ | with_reducible refine Fr.drew ?_)⟩ ?_
  clear k0 k1 k2 k3 k4 k5 k6 k7 c0 c50 hz hzl
  clear l0 l1
  intro w8 ⟨h, hb8⟩
  obtain ⟨k0, k1, k2, k3, k4, k5, k6, k7, c0, c50, hz, hzl⟩ := h.facts
  simp only [List.length_set] at c0
  have H := Lib.hid h
  have l0 := h.2.kcell t 0 _ _ (by omega) (List.getElem?_set_self ht) rfl
  have l1 := h.2.kcell t 1 _ _ (by omega) (List.getElem?_set_self ht) rfl
  dsimp only [Nat.add_zero] at l0 l1
  clear h
  go_quiet (fail)
  go_wp2
  go_wp2
  try rw [Hor.out]
  refine gen_world (P := Code.wp Try.prog _ _ _) (Q := fun W => RepC B ba bl ov { s with l := s.l.set t ⟨bs, bv⟩ } i ⟨0, beg, wr, val, 0, 0, bs, bv⟩ W ∧ Fr ba bl ov w W) _ ⟨(((H.out.drewN _).upd (c' := ⟨2, beg, wr, val, 0, many + 1, bs, bv⟩) 4 (by omega) rfl).upd (c' := ⟨2, beg, wr, val, 0, 0, bs, bv⟩) 5 (by omega) rfl).upd (c' := ⟨0, beg, wr, val, 0, 0, bs, bv⟩) 0 (by omega) rfl, by repeat (first | with_reducible exact Fr.refl _ _ _ _ | with_reducible assumption | with_reducible refine Fr.setA ?_ _ _ | with_reducible refine Fr.setL ?_ _ _ | with_reducible refine Fr.drewN ?_ _ | with_reducible refine Fr.drew ?_)⟩ ?_
  clear k0 k1 k2 k3 k4 k5 k6 k7 c0 c50 hz hzl
  clear l0 l1
  intro w9 ⟨h, hb9⟩
  obtain ⟨k0, k1, k2, k3, k4, k5, k6, k7, c0, c50, hz, hzl⟩ := h.facts
  simp only [List.length_set] at c0
  have H := Lib.hid h
  have l0 := h.2.kcell t 0 _ _ (by omega) (List.getElem?_set_self ht) rfl
  have l1 := h.2.kcell t 1 _ _ (by omega) (List.getElem?_set_self ht) rfl
  dsimp only [Nat.add_zero] at l0 l1
  clear h
  have hown := H.out.2.ops
  have hoA := H.out.2.opsA
  have hoL := H.out.2.opsL
  have hlA := H.out.2.all.lt
  have hlL := H.out.2.kept.lt
  obtain ⟨i0, hi0, hz0, hz1, hz2⟩ := info_parts info35
  have HO := Lib.hid hown
  clear hown
  refine wp_region_held_drew (S := (fun w' => w'.cell? ⟨ba, 2 + i * 8 + 1, none⟩ = some (.int .i64 beg) ∧ w'.cell? ⟨ba, 2 + i * 8 + 2, none⟩ = some (.bool wr) ∧ w'.cell? ⟨ba, 2 + i * 8 + 7, none⟩ = some (.int .i64 bv))) (by kernel_rfl) ?_ (fun hHeld => ?_)
  · first | go_keep | (go_split_ands; refine ⟨?_, ?_, ?_⟩ <;> (rw [hgrow.cell_far _ (by simp; omega) (Ne.symm hoA)]; assumption)) | (go_split_ands; refine ⟨?_, ?_, ?_⟩ <;> (rw [World.cell?_setCell_other _ _ _ _ (by simp <;> omega)]; assumption))
  refine wpAnyH_take (i := 0) (oi := { dst := some 132, op := Go.Op.move (Go.Operand.tmp 0), type := 39, pos := "copies.go:59", after := #[], guard := none }) (v := ?_) rfl (by kernel_rfl) (by kernel_rfl) (by kernel_rfl) (fun _ _ _ h => h) (Or.inl ⟨by rfl, ?_⟩) (by assumption) ?_
  rotate_left 1
  · intro w hSw; (try dsimp only at hSw); go_simp; try with_reducible rfl
  (try simp only [Act.put, List.setIfInBounds_toArray, List.set_cons_zero, List.set_cons_succ])
  refine wpAnyH_take (i := 1) (oi := { dst := some 133, op := Go.Op.move (Go.Operand.tmp 0), type := 39, pos := "copies.go:59", after := #[], guard := none }) (v := ?_) rfl (by kernel_rfl) (by kernel_rfl) (by kernel_rfl) (fun _ _ _ h => h) (Or.inl ⟨by rfl, ?_⟩) (by assumption) ?_
  rotate_left 1
  · intro w hSw; (try dsimp only at hSw); go_simp; try with_reducible rfl
  (try simp only [Act.put, List.setIfInBounds_toArray, List.set_cons_zero, List.set_cons_succ])
  refine wpAnyH_take (i := 2) (oi := { dst := some 134, op := Go.Op.nilCheck (Go.Operand.tmp 133), type := 0, pos := "copies.go:59", after := #[{ on := 1, ground := Go.Ground.data }], guard := none }) (v := ?_) rfl (by kernel_rfl) (by kernel_rfl) (by kernel_rfl) (fun _ _ _ h => h) (Or.inl ⟨by rfl, ?_⟩) (by assumption) ?_
  rotate_left 1
  · intro w hSw; (try dsimp only at hSw); go_simp; try with_reducible rfl
  (try simp only [Act.put, List.setIfInBounds_toArray, List.set_cons_zero, List.set_cons_succ])
  refine wpAnyH_take (i := 3) (oi := { dst := some 135, op := Go.Op.fieldAddr 48 (Go.Operand.tmp 134) 3, type := 0, pos := "copies.go:59", after := #[{ on := 2, ground := Go.Ground.data }], guard := none }) (v := ?_) rfl (by kernel_rfl) (by kernel_rfl) (by kernel_rfl) (fun _ _ _ h => h) (Or.inl ⟨by rfl, ?_⟩) (by assumption) ?_
  rotate_left 1
  · intro w hSw; (try dsimp only at hSw); go_simp; try with_reducible rfl
  (try simp only [Act.put, List.setIfInBounds_toArray, List.set_cons_zero, List.set_cons_succ])
  refine wpAnyH_take (i := 5) (oi := { dst := some 137, op := Go.Op.move (Go.Operand.tmp 1), type := 3, pos := "copies.go:59", after := #[], guard := none }) (v := ?_) rfl (by kernel_rfl) (by kernel_rfl) (by kernel_rfl) (fun _ _ _ h => h) (Or.inl ⟨by rfl, ?_⟩) (by assumption) ?_
  rotate_left 1
  · intro w hSw; (try dsimp only at hSw); go_simp; try with_reducible rfl
  (try simp only [Act.put, List.setIfInBounds_toArray, List.set_cons_zero, List.set_cons_succ])
  refine wpAnyH_take (i := 6) (oi := { dst := some 138, op := Go.Op.move (Go.Operand.tmp 8), type := 55, pos := "copies.go:59", after := #[], guard := none }) (v := ?_) rfl (by kernel_rfl) (by kernel_rfl) (by kernel_rfl) (fun _ _ _ h => h) (Or.inl ⟨by rfl, ?_⟩) (by assumption) ?_
  rotate_left 1
  · intro w hSw; (try dsimp only at hSw); go_simp; try with_reducible rfl
  (try simp only [Act.put, List.setIfInBounds_toArray, List.set_cons_zero, List.set_cons_succ])
  refine wpAnyH_take (i := 7) (oi := { dst := some 139, op := Go.Op.nilCheck (Go.Operand.tmp 138), type := 0, pos := "copies.go:59", after := #[{ on := 6, ground := Go.Ground.data }], guard := none }) (v := ?_) rfl (by kernel_rfl) (by kernel_rfl) (by kernel_rfl) (fun _ _ _ h => h) (Or.inl ⟨by rfl, ?_⟩) (by assumption) ?_
  rotate_left 1
  · intro w hSw; (try dsimp only at hSw); go_simp; try with_reducible rfl
  (try simp only [Act.put, List.setIfInBounds_toArray, List.set_cons_zero, List.set_cons_succ])
  refine wpAnyH_take (i := 8) (oi := { dst := some 140, op := Go.Op.fieldAddr 45 (Go.Operand.tmp 139) 1, type := 0, pos := "copies.go:59", after := #[{ on := 7, ground := Go.Ground.data }], guard := none }) (v := ?_) rfl (by kernel_rfl) (by kernel_rfl) (by kernel_rfl) (fun _ _ _ h => h) (Or.inl ⟨by rfl, ?_⟩) (by assumption) ?_
  rotate_left 1
  · intro w hSw; (try dsimp only at hSw); go_simp; try with_reducible rfl
  (try simp only [Act.put, List.setIfInBounds_toArray, List.set_cons_zero, List.set_cons_succ])
  refine wpAnyH_take (i := 9) (oi := { dst := some 141, op := Go.Op.load 3 (Go.Operand.tmp 140), type := 3, pos := "copies.go:59", after := #[{ on := 8, ground := Go.Ground.data }], guard := none }) (v := ?_) rfl (by kernel_rfl) (by kernel_rfl) (by kernel_rfl) (fun _ _ _ h => h) (Or.inl ⟨by rfl, ?_⟩) (by assumption) ?_
  rotate_left 1
  · intro w hSw; (try dsimp only at hSw); go_simp; try with_reducible rfl
  (try simp only [Act.put, List.setIfInBounds_toArray, List.set_cons_zero, List.set_cons_succ])
  refine wpAnyH_take (i := 10) (oi := { dst := some 142, op := Go.Op.move (Go.Operand.tmp 3), type := 3, pos := "copies.go:59", after := #[], guard := none }) (v := ?_) rfl (by kernel_rfl) (by kernel_rfl) (by kernel_rfl) (fun _ _ _ h => h) (Or.inl ⟨by rfl, ?_⟩) (by assumption) ?_
  rotate_left 1
  · intro w hSw; (try dsimp only at hSw); go_simp; try with_reducible rfl
  (try simp only [Act.put, List.setIfInBounds_toArray, List.set_cons_zero, List.set_cons_succ])
  refine wpAnyH_take (i := 11) (oi := { dst := some 143, op := Go.Op.move (Go.Operand.tmp 8), type := 55, pos := "copies.go:59", after := #[], guard := none }) (v := ?_) rfl (by kernel_rfl) (by kernel_rfl) (by kernel_rfl) (fun _ _ _ h => h) (Or.inl ⟨by rfl, ?_⟩) (by assumption) ?_
  rotate_left 1
  · intro w hSw; (try dsimp only at hSw); go_simp; try with_reducible rfl
  (try simp only [Act.put, List.setIfInBounds_toArray, List.set_cons_zero, List.set_cons_succ])
  refine wpAnyH_take (i := 12) (oi := { dst := some 144, op := Go.Op.nilCheck (Go.Operand.tmp 143), type := 0, pos := "copies.go:59", after := #[{ on := 11, ground := Go.Ground.data }], guard := none }) (v := ?_) rfl (by kernel_rfl) (by kernel_rfl) (by kernel_rfl) (fun _ _ _ h => h) (Or.inl ⟨by rfl, ?_⟩) (by assumption) ?_
  rotate_left 1
  · intro w hSw; (try dsimp only at hSw); go_simp; try with_reducible rfl
  (try simp only [Act.put, List.setIfInBounds_toArray, List.set_cons_zero, List.set_cons_succ])
  refine wpAnyH_take (i := 13) (oi := { dst := some 145, op := Go.Op.fieldAddr 45 (Go.Operand.tmp 144) 2, type := 0, pos := "copies.go:59", after := #[{ on := 12, ground := Go.Ground.data }], guard := none }) (v := ?_) rfl (by kernel_rfl) (by kernel_rfl) (by kernel_rfl) (fun _ _ _ h => h) (Or.inl ⟨by rfl, ?_⟩) (by assumption) ?_
  rotate_left 1
  · intro w hSw; (try dsimp only at hSw); go_simp; try with_reducible rfl
  (try simp only [Act.put, List.setIfInBounds_toArray, List.set_cons_zero, List.set_cons_succ])
  refine wpAnyH_take (i := 14) (oi := { dst := some 146, op := Go.Op.load 4 (Go.Operand.tmp 145), type := 4, pos := "copies.go:59", after := #[{ on := 13, ground := Go.Ground.data }], guard := none }) (v := ?_) rfl (by kernel_rfl) (by kernel_rfl) (by kernel_rfl) (fun _ _ _ h => h) (Or.inl ⟨by rfl, ?_⟩) (by assumption) ?_
  rotate_left 1
  · intro w hSw; (try dsimp only at hSw); go_simp; try with_reducible rfl
  (try simp only [Act.put, List.setIfInBounds_toArray, List.set_cons_zero, List.set_cons_succ])
  refine wpAnyH_take (i := 15) (oi := { dst := some 147, op := Go.Op.move (Go.Operand.tmp 8), type := 55, pos := "copies.go:59", after := #[], guard := none }) (v := ?_) rfl (by kernel_rfl) (by kernel_rfl) (by kernel_rfl) (fun _ _ _ h => h) (Or.inl ⟨by rfl, ?_⟩) (by assumption) ?_
  rotate_left 1
  · intro w hSw; (try dsimp only at hSw); go_simp; try with_reducible rfl
  (try simp only [Act.put, List.setIfInBounds_toArray, List.set_cons_zero, List.set_cons_succ])
  refine wpAnyH_take (i := 16) (oi := { dst := some 148, op := Go.Op.nilCheck (Go.Operand.tmp 147), type := 0, pos := "copies.go:59", after := #[{ on := 15, ground := Go.Ground.data }], guard := none }) (v := ?_) rfl (by kernel_rfl) (by kernel_rfl) (by kernel_rfl) (fun _ _ _ h => h) (Or.inl ⟨by rfl, ?_⟩) (by assumption) ?_
  rotate_left 1
  · intro w hSw; (try dsimp only at hSw); go_simp; try with_reducible rfl
  (try simp only [Act.put, List.setIfInBounds_toArray, List.set_cons_zero, List.set_cons_succ])
  refine wpAnyH_take (i := 17) (oi := { dst := some 149, op := Go.Op.fieldAddr 45 (Go.Operand.tmp 148) 6, type := 0, pos := "copies.go:59", after := #[{ on := 16, ground := Go.Ground.data }], guard := none }) (v := ?_) rfl (by kernel_rfl) (by kernel_rfl) (by kernel_rfl) (fun _ _ _ h => h) (Or.inl ⟨by rfl, ?_⟩) (by assumption) ?_
  rotate_left 1
  · intro w hSw; (try dsimp only at hSw); go_simp; try with_reducible rfl
  (try simp only [Act.put, List.setIfInBounds_toArray, List.set_cons_zero, List.set_cons_succ])
  refine wpAnyH_take (i := 18) (oi := { dst := some 150, op := Go.Op.fieldAddr 43 (Go.Operand.tmp 149) 1, type := 0, pos := "copies.go:59", after := #[{ on := 17, ground := Go.Ground.data }], guard := none }) (v := ?_) rfl (by kernel_rfl) (by kernel_rfl) (by kernel_rfl) (fun _ _ _ h => h) (Or.inl ⟨by rfl, ?_⟩) (by assumption) ?_
  rotate_left 1
  · intro w hSw; (try dsimp only at hSw); go_simp; try with_reducible rfl
  (try simp only [Act.put, List.setIfInBounds_toArray, List.set_cons_zero, List.set_cons_succ])
  refine wpAnyH_take (i := 19) (oi := { dst := some 151, op := Go.Op.load 3 (Go.Operand.tmp 150), type := 3, pos := "copies.go:59", after := #[{ on := 18, ground := Go.Ground.data }], guard := none }) (v := ?_) rfl (by kernel_rfl) (by kernel_rfl) (by kernel_rfl) (fun _ _ _ h => h) (Or.inl ⟨by rfl, ?_⟩) (by assumption) ?_
  rotate_left 1
  · intro w hSw; (try dsimp only at hSw); go_simp; try with_reducible rfl
  (try simp only [Act.put, List.setIfInBounds_toArray, List.set_cons_zero, List.set_cons_succ])
  refine wpAnyH_take (i := 20) (oi := { dst := some 152, op := Go.Op.build 35 #[(0, Go.Operand.tmp 137), (1, Go.Operand.tmp 141), (2, Go.Operand.tmp 142), (3, Go.Operand.tmp 146), (4, Go.Operand.tmp 151)], type := 35, pos := "copies.go:59", after := #[{ on := 5, ground := Go.Ground.data }, { on := 9, ground := Go.Ground.data }, { on := 10, ground := Go.Ground.data }, { on := 14, ground := Go.Ground.data }, { on := 19, ground := Go.Ground.data }], guard := none }) (v := ?_) rfl (by kernel_rfl) (by kernel_rfl) (by kernel_rfl) (fun _ _ _ h => h) (Or.inl ⟨by rfl, ?_⟩) (by assumption) ?_
  rotate_left 1
  · intro w hSw; (try dsimp only at hSw); go_simp; try with_reducible rfl
  (try simp only [Act.put, List.setIfInBounds_toArray, List.set_cons_zero, List.set_cons_succ])
  refine wpAnyH_ready (rs := [4, 21]) (by kernel_rfl) (by simp) ?_
  refine AllReadyH.cons (o := { dst := some 136, op := Go.Op.load 24 (Go.Operand.tmp 135), type := 24, pos := "copies.go:59", after := #[{ on := 3, ground := Go.Ground.data }], guard := none }) rfl (fun K hK => ?_) ?_
  · go_simp
    refine hK.out _ _ ?_ (fun hHeld => ?_)
    · first | go_keep | (go_split_ands; refine ⟨?_, ?_, ?_⟩ <;> (rw [hgrow.cell_far _ (by simp; omega) (Ne.symm hoA)]; assumption)) | (go_split_ands; refine ⟨?_, ?_, ?_⟩ <;> (rw [World.cell?_setCell_other _ _ _ _ (by simp <;> omega)]; assumption))
    clear hK K
    (try simp only [Act.put, List.setIfInBounds_toArray, List.set_cons_zero, List.set_cons_succ])
    refine wpAnyH_ready (rs := [21]) (by kernel_rfl) (by simp) ?_
    refine AllReadyH.cons (o := { dst := some 153, op := Go.Op.buildSlice 24 1 #[(0, Go.Operand.tmp 152)], type := 24, pos := "copies.go:59", after := #[{ on := 20, ground := Go.Ground.data }], guard := none }) rfl (fun K hK => ?_) ?_
    · go_simp
      refine hK.out _ _ ?_ (fun hHeld => ?_)
      · first | go_keep | (go_split_ands; refine ⟨?_, ?_, ?_⟩ <;> (rw [hgrow.cell_far _ (by simp; omega) (Ne.symm hoA)]; assumption)) | (go_split_ands; refine ⟨?_, ?_, ?_⟩ <;> (rw [World.cell?_setCell_other _ _ _ _ (by simp <;> omega)]; assumption))
      clear hK K
      (try simp only [Act.put, List.setIfInBounds_toArray, List.set_cons_zero, List.set_cons_succ])
      refine wpAnyH_ready (rs := [22]) (by kernel_rfl) (by simp) ?_
      refine AllReadyH.cons (o := { dst := some 154, op := Go.Op.call { callee := Go.Callee.builtin Go.Builtin.append, args := #[Go.Operand.tmp 136, Go.Operand.tmp 153], argTypes := #[24, 24] }, type := 24, pos := "copies.go:59", after := #[{ on := 4, ground := Go.Ground.data }, { on := 21, ground := Go.Ground.data }], guard := none }) rfl (fun K hK => ?_) ?_
      · (refine step_append_lies _ (by rfl) _ _ _ (by rfl) B 35 i0 _ 5 40 Try.underlying24 hi0 hz0 hz1 hz2 rfl (by omega) ov _ _ (by rfl) ((HO.out.alloc _).drew) ⟨w9.heap.size, 0, none⟩ 1 1 [.int .i64 i, .int .i64 beg, .int .i64 now, .bool wr, .int .i64 bv] (by rfl) (by rfl) (World.news_of_block (cs := #[.int .i64 i, .int .i64 beg, .int .i64 now, .bool wr, .int .i64 bv]) (t := 35) (fr := (0, 0)) (heap_alloc_new w9 _)) (by simp [Value.oneCell']) (by omega) (by show s.ops.length + 1 ≤ maxLen; unfold maxLen; omega) (by show (s.ops.length + 1) * 40 ≤ _; omega) (by simp; omega) (w9.heap.size + 1) (by simp) ?_; intro gg cap wn hown1 hgrow hat hlt; have hc50 : wn.cell? ⟨ba, 50, none⟩ = some ov := (hgrow.cell_far ⟨ba, 50, none⟩ (by simp; omega) (Ne.symm hoA)).trans (by rw [World.cell?_drew, World.cell?_alloc_past _ _ _ hlA]; exact c50); have hfz : wn.frozen? ⟨ba, 50, none⟩ = false := (hgrow.frozen_far ⟨ba, 50, none⟩ (by simp; omega) (Ne.symm hoA)).trans (by rw [World.frozen?_drew, World.frozen?_alloc_past _ _ _ hlA]; exact hz 50))
        refine hK.out _ _ ?_ (fun hHeld => ?_)
        · first | go_keep | (go_split_ands; refine ⟨?_, ?_, ?_⟩ <;> (rw [hgrow.cell_far _ (by simp; omega) (Ne.symm hoA)]; assumption)) | (go_split_ands; refine ⟨?_, ?_, ?_⟩ <;> (rw [World.cell?_setCell_other _ _ _ _ (by simp <;> omega)]; assumption))
        clear hK K
        (try simp only [Act.put, List.setIfInBounds_toArray, List.set_cons_zero, List.set_cons_succ])
        refine wpAnyH_take (i := 23) (oi := { dst := some 155, op := Go.Op.nilCheck (Go.Operand.tmp 132), type := 0, pos := "copies.go:59", after := #[{ on := 0, ground := Go.Ground.data }, { on := 0, ground := Go.Ground.phase }, { on := 1, ground := Go.Ground.phase }, { on := 2, ground := Go.Ground.phase }, { on := 3, ground := Go.Ground.phase }, { on := 4, ground := Go.Ground.phase }, { on := 5, ground := Go.Ground.phase }, { on := 6, ground := Go.Ground.phase }, { on := 7, ground := Go.Ground.phase }, { on := 8, ground := Go.Ground.phase }, { on := 9, ground := Go.Ground.phase }, { on := 10, ground := Go.Ground.phase }, { on := 11, ground := Go.Ground.phase }, { on := 12, ground := Go.Ground.phase }, { on := 13, ground := Go.Ground.phase }, { on := 14, ground := Go.Ground.phase }, { on := 15, ground := Go.Ground.phase }, { on := 16, ground := Go.Ground.phase }, { on := 17, ground := Go.Ground.phase }, { on := 18, ground := Go.Ground.phase }, { on := 19, ground := Go.Ground.phase }, { on := 20, ground := Go.Ground.phase }, { on := 21, ground := Go.Ground.phase }, { on := 22, ground := Go.Ground.phase }], guard := none }) (v := ?_) rfl (by kernel_rfl) (by kernel_rfl) (by kernel_rfl) (fun _ _ _ h => h) (Or.inl ⟨by rfl, ?_⟩) (by assumption) ?_
        rotate_left 1
        · intro w hSw; (try dsimp only at hSw); go_simp; try with_reducible rfl
        (try simp only [Act.put, List.setIfInBounds_toArray, List.set_cons_zero, List.set_cons_succ])
        refine wpAnyH_take (i := 24) (oi := { dst := some 156, op := Go.Op.fieldAddr 48 (Go.Operand.tmp 155) 3, type := 0, pos := "copies.go:59", after := #[{ on := 23, ground := Go.Ground.data }, { on := 0, ground := Go.Ground.phase }, { on := 1, ground := Go.Ground.phase }, { on := 2, ground := Go.Ground.phase }, { on := 3, ground := Go.Ground.phase }, { on := 4, ground := Go.Ground.phase }, { on := 5, ground := Go.Ground.phase }, { on := 6, ground := Go.Ground.phase }, { on := 7, ground := Go.Ground.phase }, { on := 8, ground := Go.Ground.phase }, { on := 9, ground := Go.Ground.phase }, { on := 10, ground := Go.Ground.phase }, { on := 11, ground := Go.Ground.phase }, { on := 12, ground := Go.Ground.phase }, { on := 13, ground := Go.Ground.phase }, { on := 14, ground := Go.Ground.phase }, { on := 15, ground := Go.Ground.phase }, { on := 16, ground := Go.Ground.phase }, { on := 17, ground := Go.Ground.phase }, { on := 18, ground := Go.Ground.phase }, { on := 19, ground := Go.Ground.phase }, { on := 20, ground := Go.Ground.phase }, { on := 21, ground := Go.Ground.phase }, { on := 22, ground := Go.Ground.phase }], guard := none }) (v := ?_) rfl (by kernel_rfl) (by kernel_rfl) (by kernel_rfl) (fun _ _ _ h => h) (Or.inl ⟨by rfl, ?_⟩) (by assumption) ?_
        rotate_left 1
        · intro w hSw; (try dsimp only at hSw); go_simp; try with_reducible rfl
        (try simp only [Act.put, List.setIfInBounds_toArray, List.set_cons_zero, List.set_cons_succ])
        refine wpAnyH_ready (rs := [25]) (by kernel_rfl) (by simp) ?_
        refine AllReadyH.cons (o := { dst := none, op := Go.Op.store 24 (Go.Operand.tmp 156) (Go.Operand.tmp 154), type := 0, pos := "copies.go:59", after := #[{ on := 24, ground := Go.Ground.data }, { on := 22, ground := Go.Ground.data }, { on := 22, ground := Go.Ground.chain }, { on := 0, ground := Go.Ground.phase }, { on := 1, ground := Go.Ground.phase }, { on := 2, ground := Go.Ground.phase }, { on := 3, ground := Go.Ground.phase }, { on := 4, ground := Go.Ground.phase }, { on := 5, ground := Go.Ground.phase }, { on := 6, ground := Go.Ground.phase }, { on := 7, ground := Go.Ground.phase }, { on := 8, ground := Go.Ground.phase }, { on := 9, ground := Go.Ground.phase }, { on := 10, ground := Go.Ground.phase }, { on := 11, ground := Go.Ground.phase }, { on := 12, ground := Go.Ground.phase }, { on := 13, ground := Go.Ground.phase }, { on := 14, ground := Go.Ground.phase }, { on := 15, ground := Go.Ground.phase }, { on := 16, ground := Go.Ground.phase }, { on := 17, ground := Go.Ground.phase }, { on := 18, ground := Go.Ground.phase }, { on := 19, ground := Go.Ground.phase }, { on := 20, ground := Go.Ground.phase }, { on := 21, ground := Go.Ground.phase }, { on := 22, ground := Go.Ground.phase }], guard := none }) rfl (fun K hK => ?_) ?_
        · go_simp
          refine hK.out _ _ ?_ (fun hHeld => ?_)
          · first | go_keep | (go_split_ands; refine ⟨?_, ?_, ?_⟩ <;> (rw [hgrow.cell_far _ (by simp; omega) (Ne.symm hoA)]; assumption)) | (go_split_ands; refine ⟨?_, ?_, ?_⟩ <;> (rw [World.cell?_setCell_other _ _ _ _ (by simp <;> omega)]; assumption))
          clear hK K
          (try simp only [Act.put, List.setIfInBounds_toArray, List.set_cons_zero, List.set_cons_succ])
          refine wpAnyH_done (by kernel_rfl) ?_ _
          go_wp2
          (try simp only [Exit.inBlock, Exit.then])
          refine bodyPost_end (results_none rfl _ _ _) rfl ?_
          have hpush := H.out.push ⟨i, beg, now, wr, bv⟩ rfl rfl hown1 hgrow hat
          refine ⟨(by first | rfl | exact trivial), ?_, Fr.trans (by assumption) (Lat.refl _ _) hpush.2.1⟩
          have hb' : ks < bs := by have := HB.out; omega
          have e : reach s i t ⟨2, beg, wr, val, rd, many, bs, bv⟩ ⟨ks, kv⟩ now = { { putc s i ⟨0, beg, wr, val, 0, 0, bs, bv⟩ with l := s.l.set t ⟨bs, bv⟩ } with ops := s.ops ++ [⟨i, beg, now, wr, bv⟩] } := by
            simp [reach, meet, turn, hb', hq, E1.out, putc, show ¬ 2 * (many + 1) ≤ (s.l.length : Int) by omega]
          rw [e]
          exact ⟨_, hpush.1, fun k hk e => hpush.2.2 k (Nat.lt_of_lt_of_le hk (Fr.size (by assumption))) e⟩
        exact AllReadyH.nil
      exact AllReadyH.nil
    exact AllReadyH.nil
  refine AllReadyH.cons (o := { dst := some 153, op := Go.Op.buildSlice 24 1 #[(0, Go.Operand.tmp 152)], type := 24, pos := "copies.go:59", after := #[{ on := 20, ground := Go.Ground.data }], guard := none }) rfl (fun K hK => ?_) ?_
  · go_simp
    refine hK.out _ _ ?_ (fun hHeld => ?_)
    · first | go_keep | (go_split_ands; refine ⟨?_, ?_, ?_⟩ <;> (rw [hgrow.cell_far _ (by simp; omega) (Ne.symm hoA)]; assumption)) | (go_split_ands; refine ⟨?_, ?_, ?_⟩ <;> (rw [World.cell?_setCell_other _ _ _ _ (by simp <;> omega)]; assumption))
    clear hK K
    (try simp only [Act.put, List.setIfInBounds_toArray, List.set_cons_zero, List.set_cons_succ])
    refine wpAnyH_ready (rs := [4]) (by kernel_rfl) (by simp) ?_
    refine AllReadyH.cons (o := { dst := some 136, op := Go.Op.load 24 (Go.Operand.tmp 135), type := 24, pos := "copies.go:59", after := #[{ on := 3, ground := Go.Ground.data }], guard := none }) rfl (fun K hK => ?_) ?_
    · go_simp
      refine hK.out _ _ ?_ (fun hHeld => ?_)
      · first | go_keep | (go_split_ands; refine ⟨?_, ?_, ?_⟩ <;> (rw [hgrow.cell_far _ (by simp; omega) (Ne.symm hoA)]; assumption)) | (go_split_ands; refine ⟨?_, ?_, ?_⟩ <;> (rw [World.cell?_setCell_other _ _ _ _ (by simp <;> omega)]; assumption))
      clear hK K
      (try simp only [Act.put, List.setIfInBounds_toArray, List.set_cons_zero, List.set_cons_succ])
      refine wpAnyH_ready (rs := [22]) (by kernel_rfl) (by simp) ?_
      refine AllReadyH.cons (o := { dst := some 154, op := Go.Op.call { callee := Go.Callee.builtin Go.Builtin.append, args := #[Go.Operand.tmp 136, Go.Operand.tmp 153], argTypes := #[24, 24] }, type := 24, pos := "copies.go:59", after := #[{ on := 4, ground := Go.Ground.data }, { on := 21, ground := Go.Ground.data }], guard := none }) rfl (fun K hK => ?_) ?_
      · (refine step_append_lies _ (by rfl) _ _ _ (by rfl) B 35 i0 _ 5 40 Try.underlying24 hi0 hz0 hz1 hz2 rfl (by omega) ov _ _ (by rfl) ((HO.out.alloc _).drew) ⟨w9.heap.size, 0, none⟩ 1 1 [.int .i64 i, .int .i64 beg, .int .i64 now, .bool wr, .int .i64 bv] (by rfl) (by rfl) (World.news_of_block (cs := #[.int .i64 i, .int .i64 beg, .int .i64 now, .bool wr, .int .i64 bv]) (t := 35) (fr := (0, 0)) (heap_alloc_new w9 _)) (by simp [Value.oneCell']) (by omega) (by show s.ops.length + 1 ≤ maxLen; unfold maxLen; omega) (by show (s.ops.length + 1) * 40 ≤ _; omega) (by simp; omega) (w9.heap.size + 1) (by simp) ?_; intro gg cap wn hown1 hgrow hat hlt; have hc50 : wn.cell? ⟨ba, 50, none⟩ = some ov := (hgrow.cell_far ⟨ba, 50, none⟩ (by simp; omega) (Ne.symm hoA)).trans (by rw [World.cell?_drew, World.cell?_alloc_past _ _ _ hlA]; exact c50); have hfz : wn.frozen? ⟨ba, 50, none⟩ = false := (hgrow.frozen_far ⟨ba, 50, none⟩ (by simp; omega) (Ne.symm hoA)).trans (by rw [World.frozen?_drew, World.frozen?_alloc_past _ _ _ hlA]; exact hz 50))
        refine hK.out _ _ ?_ (fun hHeld => ?_)
        · first | go_keep | (go_split_ands; refine ⟨?_, ?_, ?_⟩ <;> (rw [hgrow.cell_far _ (by simp; omega) (Ne.symm hoA)]; assumption)) | (go_split_ands; refine ⟨?_, ?_, ?_⟩ <;> (rw [World.cell?_setCell_other _ _ _ _ (by simp <;> omega)]; assumption))
        clear hK K
        (try simp only [Act.put, List.setIfInBounds_toArray, List.set_cons_zero, List.set_cons_succ])
        refine wpAnyH_take (i := 23) (oi := { dst := some 155, op := Go.Op.nilCheck (Go.Operand.tmp 132), type := 0, pos := "copies.go:59", after := #[{ on := 0, ground := Go.Ground.data }, { on := 0, ground := Go.Ground.phase }, { on := 1, ground := Go.Ground.phase }, { on := 2, ground := Go.Ground.phase }, { on := 3, ground := Go.Ground.phase }, { on := 4, ground := Go.Ground.phase }, { on := 5, ground := Go.Ground.phase }, { on := 6, ground := Go.Ground.phase }, { on := 7, ground := Go.Ground.phase }, { on := 8, ground := Go.Ground.phase }, { on := 9, ground := Go.Ground.phase }, { on := 10, ground := Go.Ground.phase }, { on := 11, ground := Go.Ground.phase }, { on := 12, ground := Go.Ground.phase }, { on := 13, ground := Go.Ground.phase }, { on := 14, ground := Go.Ground.phase }, { on := 15, ground := Go.Ground.phase }, { on := 16, ground := Go.Ground.phase }, { on := 17, ground := Go.Ground.phase }, { on := 18, ground := Go.Ground.phase }, { on := 19, ground := Go.Ground.phase }, { on := 20, ground := Go.Ground.phase }, { on := 21, ground := Go.Ground.phase }, { on := 22, ground := Go.Ground.phase }], guard := none }) (v := ?_) rfl (by kernel_rfl) (by kernel_rfl) (by kernel_rfl) (fun _ _ _ h => h) (Or.inl ⟨by rfl, ?_⟩) (by assumption) ?_
        rotate_left 1
        · intro w hSw; (try dsimp only at hSw); go_simp; try with_reducible rfl
        (try simp only [Act.put, List.setIfInBounds_toArray, List.set_cons_zero, List.set_cons_succ])
        refine wpAnyH_take (i := 24) (oi := { dst := some 156, op := Go.Op.fieldAddr 48 (Go.Operand.tmp 155) 3, type := 0, pos := "copies.go:59", after := #[{ on := 23, ground := Go.Ground.data }, { on := 0, ground := Go.Ground.phase }, { on := 1, ground := Go.Ground.phase }, { on := 2, ground := Go.Ground.phase }, { on := 3, ground := Go.Ground.phase }, { on := 4, ground := Go.Ground.phase }, { on := 5, ground := Go.Ground.phase }, { on := 6, ground := Go.Ground.phase }, { on := 7, ground := Go.Ground.phase }, { on := 8, ground := Go.Ground.phase }, { on := 9, ground := Go.Ground.phase }, { on := 10, ground := Go.Ground.phase }, { on := 11, ground := Go.Ground.phase }, { on := 12, ground := Go.Ground.phase }, { on := 13, ground := Go.Ground.phase }, { on := 14, ground := Go.Ground.phase }, { on := 15, ground := Go.Ground.phase }, { on := 16, ground := Go.Ground.phase }, { on := 17, ground := Go.Ground.phase }, { on := 18, ground := Go.Ground.phase }, { on := 19, ground := Go.Ground.phase }, { on := 20, ground := Go.Ground.phase }, { on := 21, ground := Go.Ground.phase }, { on := 22, ground := Go.Ground.phase }], guard := none }) (v := ?_) rfl (by kernel_rfl) (by kernel_rfl) (by kernel_rfl) (fun _ _ _ h => h) (Or.inl ⟨by rfl, ?_⟩) (by assumption) ?_
        rotate_left 1
        · intro w hSw; (try dsimp only at hSw); go_simp; try with_reducible rfl
        (try simp only [Act.put, List.setIfInBounds_toArray, List.set_cons_zero, List.set_cons_succ])
        refine wpAnyH_ready (rs := [25]) (by kernel_rfl) (by simp) ?_
        refine AllReadyH.cons (o := { dst := none, op := Go.Op.store 24 (Go.Operand.tmp 156) (Go.Operand.tmp 154), type := 0, pos := "copies.go:59", after := #[{ on := 24, ground := Go.Ground.data }, { on := 22, ground := Go.Ground.data }, { on := 22, ground := Go.Ground.chain }, { on := 0, ground := Go.Ground.phase }, { on := 1, ground := Go.Ground.phase }, { on := 2, ground := Go.Ground.phase }, { on := 3, ground := Go.Ground.phase }, { on := 4, ground := Go.Ground.phase }, { on := 5, ground := Go.Ground.phase }, { on := 6, ground := Go.Ground.phase }, { on := 7, ground := Go.Ground.phase }, { on := 8, ground := Go.Ground.phase }, { on := 9, ground := Go.Ground.phase }, { on := 10, ground := Go.Ground.phase }, { on := 11, ground := Go.Ground.phase }, { on := 12, ground := Go.Ground.phase }, { on := 13, ground := Go.Ground.phase }, { on := 14, ground := Go.Ground.phase }, { on := 15, ground := Go.Ground.phase }, { on := 16, ground := Go.Ground.phase }, { on := 17, ground := Go.Ground.phase }, { on := 18, ground := Go.Ground.phase }, { on := 19, ground := Go.Ground.phase }, { on := 20, ground := Go.Ground.phase }, { on := 21, ground := Go.Ground.phase }, { on := 22, ground := Go.Ground.phase }], guard := none }) rfl (fun K hK => ?_) ?_
        · go_simp
          refine hK.out _ _ ?_ (fun hHeld => ?_)
          · first | go_keep | (go_split_ands; refine ⟨?_, ?_, ?_⟩ <;> (rw [hgrow.cell_far _ (by simp; omega) (Ne.symm hoA)]; assumption)) | (go_split_ands; refine ⟨?_, ?_, ?_⟩ <;> (rw [World.cell?_setCell_other _ _ _ _ (by simp <;> omega)]; assumption))
          clear hK K
          (try simp only [Act.put, List.setIfInBounds_toArray, List.set_cons_zero, List.set_cons_succ])
          refine wpAnyH_done (by kernel_rfl) ?_ _
          go_wp2
          (try simp only [Exit.inBlock, Exit.then])
          refine bodyPost_end (results_none rfl _ _ _) rfl ?_
          have hpush := H.out.push ⟨i, beg, now, wr, bv⟩ rfl rfl hown1 hgrow hat
          refine ⟨(by first | rfl | exact trivial), ?_, Fr.trans (by assumption) (Lat.refl _ _) hpush.2.1⟩
          have hb' : ks < bs := by have := HB.out; omega
          have e : reach s i t ⟨2, beg, wr, val, rd, many, bs, bv⟩ ⟨ks, kv⟩ now = { { putc s i ⟨0, beg, wr, val, 0, 0, bs, bv⟩ with l := s.l.set t ⟨bs, bv⟩ } with ops := s.ops ++ [⟨i, beg, now, wr, bv⟩] } := by
            simp [reach, meet, turn, hb', hq, E1.out, putc, show ¬ 2 * (many + 1) ≤ (s.l.length : Int) by omega]
          rw [e]
          exact ⟨_, hpush.1, fun k hk e => hpush.2.2 k (Nat.lt_of_lt_of_le hk (Fr.size (by assumption))) e⟩
        exact AllReadyH.nil
      exact AllReadyH.nil
    exact AllReadyH.nil
  exact AllReadyH.nil

set_option maxRecDepth 100000 in
set_option maxHeartbeats 1000000 in
theorem reach_2b {B ba bl : Nat} {ov : Value} {s : St} {i t : Nat} {c : Cl} {k : Kept} {w : World} (now : Int) (h : RepC B ba bl ov s i c w) (ht : t < s.l.length) (hk : s.l[t]? = some k) (hn : s.l.length ≤ 6)
    (hm : 0 ≤ c.many) (hm1 : c.many < 100) (hr : c.reached < 64) (hbs0 : 0 ≤ c.bs) (hbs1 : c.bs ≤ 10000) (hks1 : k.stamp ≤ 10000) (hop : s.ops.length ≤ 100) (hp : c.part = 2) (hb : c.bs ≤ k.stamp) (hq : 2 * (c.many + 1) ≤ s.l.length) :
    Calls Try.prog 15 #[.pointer (some ⟨ba, 0, none⟩), .int .i64 i, .int .i64 t, .int .i64 now] w fun e w' => e = .returned (.tuple #[]) ∧ (∃ ov', Rep B ba bl ov' (reach s i t c k now) w' ∧ Lat w ov ov') ∧ Fr ba bl ov w w' := by
  obtain ⟨part, beg, wr, val, rd, many, bs, bv⟩ := c
  obtain ⟨ks, kv⟩ := k
  simp only at hm hm1 hr hp hb hq hbs0 hbs1 hks1
  subst hp
  have hor := or_bit rd t hr (by omega)
  have Hor := Lib.hid hor
  have HB := Lib.hid hb
  clear hor
  have e1 : s.l.set t ⟨ks, kv⟩ = s.l := by
    obtain ⟨h3, h4⟩ := List.getElem?_eq_some_iff.1 hk
    rw [← h4]; exact List.set_getElem_self h3
  have E1 := Lib.hid e1
  clear e1
  obtain ⟨k0, k1, k2, k3, k4, k5, k6, k7, c0, c50, hz, hzl⟩ := h.facts
  have l0 := h.2.kcell t 0 _ _ (by omega) hk rfl
  have l1 := h.2.kcell t 1 _ _ (by omega) hk rfl
  dsimp only [Nat.add_zero] at l0 l1
  have hne := h.2.ne
  have hi := h.1
  have hlo := h.2.loa
  have hlol := h.2.lol
  have H := Lib.hid h
  have Hk := Lib.hid hk
  clear h hk
  go_enter Try.func15, Try.ntmps15
  go_wp2
  go_quiet (fail)
  go_wp2
  go_region
  all_goals go_wp2
  try rw [Hor.out]
  refine gen_world (P := Code.wp Try.prog _ _ _) (Q := fun W => RepC B ba bl ov s i ⟨2, beg, wr, val, rd ||| 2 ^ t, many + 1, bs, bv⟩ W ∧ Fr ba bl ov w W) _ ⟨((H.out.drewN _).upd (c' := ⟨2, beg, wr, val, rd ||| 2 ^ t, many, bs, bv⟩) 4 (by omega) rfl).upd (c' := ⟨2, beg, wr, val, rd ||| 2 ^ t, many + 1, bs, bv⟩) 5 (by omega) rfl, by repeat (first | with_reducible exact Fr.refl _ _ _ _ | with_reducible assumption | with_reducible refine Fr.setA ?_ _ _ | with_reducible refine Fr.setL ?_ _ _ | with_reducible refine Fr.drewN ?_ _ | with_reducible refine Fr.drew ?_)⟩ ?_
  clear k0 k1 k2 k3 k4 k5 k6 k7 c0 c50 hz hzl
  clear l0 l1
  intro w10 ⟨h, hb10⟩
  obtain ⟨k0, k1, k2, k3, k4, k5, k6, k7, c0, c50, hz, hzl⟩ := h.facts
  have H := Lib.hid h
  have l0 := h.2.kcell t 0 _ _ (by omega) Hk.out rfl
  have l1 := h.2.kcell t 1 _ _ (by omega) Hk.out rfl
  dsimp only [Nat.add_zero] at l0 l1
  clear h
  go_quiet (fail)
  go_wp2
  go_quiet (fail)
  go_wp2
  (try simp only [World.drewN_drewN])
  try rw [Hor.out]
  refine gen_world (P := Code.wp Try.prog _ _ _) (Q := fun W => RepC B ba bl ov s i ⟨2, beg, wr, val, rd ||| 2 ^ t, many + 1, bs, bv⟩ W ∧ Fr ba bl ov w W) _ ⟨(H.out.drewN _), by repeat (first | with_reducible exact Fr.refl _ _ _ _ | with_reducible assumption | with_reducible refine Fr.setA ?_ _ _ | with_reducible refine Fr.setL ?_ _ _ | with_reducible refine Fr.drewN ?_ _ | with_reducible refine Fr.drew ?_)⟩ ?_
  clear k0 k1 k2 k3 k4 k5 k6 k7 c0 c50 hz hzl
  clear l0 l1
  intro w11 ⟨h, hb11⟩
  obtain ⟨k0, k1, k2, k3, k4, k5, k6, k7, c0, c50, hz, hzl⟩ := h.facts
  have H := Lib.hid h
  have l0 := h.2.kcell t 0 _ _ (by omega) Hk.out rfl
  have l1 := h.2.kcell t 1 _ _ (by omega) Hk.out rfl
  dsimp only [Nat.add_zero] at l0 l1
  clear h
  go_quiet (fail)
  go_wp2
  (try simp only [Exit.inBlock, Exit.then])
  refine bodyPost_ret (results_none rfl _ _ _) rfl ?_
  refine ⟨(by first | rfl | exact trivial), ⟨ov, ?_, Lat.refl _ _⟩, by repeat (first | with_reducible exact Fr.refl _ _ _ _ | with_reducible assumption | with_reducible refine Fr.setA ?_ _ _ | with_reducible refine Fr.setL ?_ _ _ | with_reducible refine Fr.drewN ?_ _ | with_reducible refine Fr.drew ?_)⟩
  have hb' : ¬ ks < bs := by have := HB.out; omega
  have e : reach s i t ⟨2, beg, wr, val, rd, many, bs, bv⟩ ⟨ks, kv⟩ now = putc s i ⟨2, beg, wr, val, rd ||| 2 ^ t, many + 1, bs, bv⟩ := by
    simp [reach, meet, turn, hb', hq, E1.out, putc]
  rw [e]
  exact (H.out.drewN _).2

set_option maxRecDepth 100000 in
set_option maxHeartbeats 1000000 in
theorem reach_2gb {B ba bl : Nat} {ov : Value} {s : St} {i t : Nat} {c : Cl} {k : Kept} {w : World} (now : Int) (h : RepC B ba bl ov s i c w) (ht : t < s.l.length) (hk : s.l[t]? = some k) (hn : s.l.length ≤ 6)
    (hm : 0 ≤ c.many) (hm1 : c.many < 100) (hr : c.reached < 64) (hbs0 : 0 ≤ c.bs) (hbs1 : c.bs ≤ 10000) (hks1 : k.stamp ≤ 10000) (hop : s.ops.length ≤ 100) (hp : c.part = 2) (hb : c.bs ≤ k.stamp) (hq : s.l.length < 2 * (c.many + 1)) :
    Calls Try.prog 15 #[.pointer (some ⟨ba, 0, none⟩), .int .i64 i, .int .i64 t, .int .i64 now] w fun e w' => e = .returned (.tuple #[]) ∧ (∃ ov', Rep B ba bl ov' (reach s i t c k now) w' ∧ Lat w ov ov') ∧ Fr ba bl ov w w' := by
  obtain ⟨part, beg, wr, val, rd, many, bs, bv⟩ := c
  obtain ⟨ks, kv⟩ := k
  simp only at hm hm1 hr hp hb hq hbs0 hbs1 hks1
  subst hp
  have hor := or_bit rd t hr (by omega)
  have Hor := Lib.hid hor
  have HB := Lib.hid hb
  clear hor
  have e1 : s.l.set t ⟨ks, kv⟩ = s.l := by
    obtain ⟨h3, h4⟩ := List.getElem?_eq_some_iff.1 hk
    rw [← h4]; exact List.set_getElem_self h3
  have E1 := Lib.hid e1
  clear e1
  obtain ⟨k0, k1, k2, k3, k4, k5, k6, k7, c0, c50, hz, hzl⟩ := h.facts
  have l0 := h.2.kcell t 0 _ _ (by omega) hk rfl
  have l1 := h.2.kcell t 1 _ _ (by omega) hk rfl
  dsimp only [Nat.add_zero] at l0 l1
  have hne := h.2.ne
  have hi := h.1
  have hlo := h.2.loa
  have hlol := h.2.lol
  have H := Lib.hid h
  have Hk := Lib.hid hk
  clear h hk
  go_enter Try.func15, Try.ntmps15
  go_wp2
  go_quiet (fail)
  go_wp2
  go_region
  all_goals go_wp2
  try rw [Hor.out]
  refine gen_world (P := Code.wp Try.prog _ _ _) (Q := fun W => RepC B ba bl ov s i ⟨2, beg, wr, val, rd ||| 2 ^ t, many + 1, bs, bv⟩ W ∧ Fr ba bl ov w W) _ ⟨((H.out.drewN _).upd (c' := ⟨2, beg, wr, val, rd ||| 2 ^ t, many, bs, bv⟩) 4 (by omega) rfl).upd (c' := ⟨2, beg, wr, val, rd ||| 2 ^ t, many + 1, bs, bv⟩) 5 (by omega) rfl, by repeat (first | with_reducible exact Fr.refl _ _ _ _ | with_reducible assumption | with_reducible refine Fr.setA ?_ _ _ | with_reducible refine Fr.setL ?_ _ _ | with_reducible refine Fr.drewN ?_ _ | with_reducible refine Fr.drew ?_)⟩ ?_
  clear k0 k1 k2 k3 k4 k5 k6 k7 c0 c50 hz hzl
  clear l0 l1
  intro w10 ⟨h, hb10⟩
  obtain ⟨k0, k1, k2, k3, k4, k5, k6, k7, c0, c50, hz, hzl⟩ := h.facts
  have H := Lib.hid h
  have l0 := h.2.kcell t 0 _ _ (by omega) Hk.out rfl
  have l1 := h.2.kcell t 1 _ _ (by omega) Hk.out rfl
  dsimp only [Nat.add_zero] at l0 l1
  clear h
  go_quiet (fail)
  go_wp2
  go_quiet (fail)
  go_wp2
  (try simp only [World.drewN_drewN])
  try rw [Hor.out]
  refine gen_world (P := Code.wp Try.prog _ _ _) (Q := fun W => RepC B ba bl ov s i ⟨2, beg, wr, val, rd ||| 2 ^ t, many + 1, bs, bv⟩ W ∧ Fr ba bl ov w W) _ ⟨(H.out.drewN _), by repeat (first | with_reducible exact Fr.refl _ _ _ _ | with_reducible assumption | with_reducible refine Fr.setA ?_ _ _ | with_reducible refine Fr.setL ?_ _ _ | with_reducible refine Fr.drewN ?_ _ | with_reducible refine Fr.drew ?_)⟩ ?_
  clear k0 k1 k2 k3 k4 k5 k6 k7 c0 c50 hz hzl
  clear l0 l1
  intro w11 ⟨h, hb11⟩
  obtain ⟨k0, k1, k2, k3, k4, k5, k6, k7, c0, c50, hz, hzl⟩ := h.facts
  have H := Lib.hid h
  have l0 := h.2.kcell t 0 _ _ (by omega) Hk.out rfl
  have l1 := h.2.kcell t 1 _ _ (by omega) Hk.out rfl
  dsimp only [Nat.add_zero] at l0 l1
  clear h
  go_quiet (fail)
  go_wp2
  go_wp2
  try rw [Hor.out]
  refine gen_world (P := Code.wp Try.prog _ _ _) (Q := fun W => RepC B ba bl ov s i ⟨0, beg, wr, val, 0, 0, bs, bv⟩ W ∧ Fr ba bl ov w W) _ ⟨(((H.out.drewN _).upd (c' := ⟨2, beg, wr, val, 0, many + 1, bs, bv⟩) 4 (by omega) rfl).upd (c' := ⟨2, beg, wr, val, 0, 0, bs, bv⟩) 5 (by omega) rfl).upd (c' := ⟨0, beg, wr, val, 0, 0, bs, bv⟩) 0 (by omega) rfl, by repeat (first | with_reducible exact Fr.refl _ _ _ _ | with_reducible assumption | with_reducible refine Fr.setA ?_ _ _ | with_reducible refine Fr.setL ?_ _ _ | with_reducible refine Fr.drewN ?_ _ | with_reducible refine Fr.drew ?_)⟩ ?_
  clear k0 k1 k2 k3 k4 k5 k6 k7 c0 c50 hz hzl
  clear l0 l1
  intro w12 ⟨h, hb12⟩
  obtain ⟨k0, k1, k2, k3, k4, k5, k6, k7, c0, c50, hz, hzl⟩ := h.facts
  have H := Lib.hid h
  have l0 := h.2.kcell t 0 _ _ (by omega) Hk.out rfl
  have l1 := h.2.kcell t 1 _ _ (by omega) Hk.out rfl
  dsimp only [Nat.add_zero] at l0 l1
  clear h
  have hown := H.out.2.ops
  have hoA := H.out.2.opsA
  have hoL := H.out.2.opsL
  have hlA := H.out.2.all.lt
  have hlL := H.out.2.kept.lt
  obtain ⟨i0, hi0, hz0, hz1, hz2⟩ := info_parts info35
  have HO := Lib.hid hown
  clear hown
  refine wp_region_held_drew (S := (fun w' => w'.cell? ⟨ba, 2 + i * 8 + 1, none⟩ = some (.int .i64 beg) ∧ w'.cell? ⟨ba, 2 + i * 8 + 2, none⟩ = some (.bool wr) ∧ w'.cell? ⟨ba, 2 + i * 8 + 7, none⟩ = some (.int .i64 bv))) (by kernel_rfl) ?_ (fun hHeld => ?_)
  · first | go_keep | (go_split_ands; refine ⟨?_, ?_, ?_⟩ <;> (rw [hgrow.cell_far _ (by simp; omega) (Ne.symm hoA)]; assumption)) | (go_split_ands; refine ⟨?_, ?_, ?_⟩ <;> (rw [World.cell?_setCell_other _ _ _ _ (by simp <;> omega)]; assumption))
  refine wpAnyH_take (i := 0) (oi := { dst := some 132, op := Go.Op.move (Go.Operand.tmp 0), type := 39, pos := "copies.go:59", after := #[], guard := none }) (v := ?_) rfl (by kernel_rfl) (by kernel_rfl) (by kernel_rfl) (fun _ _ _ h => h) (Or.inl ⟨by rfl, ?_⟩) (by assumption) ?_
  rotate_left 1
  · intro w hSw; (try dsimp only at hSw); go_simp; try with_reducible rfl
  (try simp only [Act.put, List.setIfInBounds_toArray, List.set_cons_zero, List.set_cons_succ])
  refine wpAnyH_take (i := 1) (oi := { dst := some 133, op := Go.Op.move (Go.Operand.tmp 0), type := 39, pos := "copies.go:59", after := #[], guard := none }) (v := ?_) rfl (by kernel_rfl) (by kernel_rfl) (by kernel_rfl) (fun _ _ _ h => h) (Or.inl ⟨by rfl, ?_⟩) (by assumption) ?_
  rotate_left 1
  · intro w hSw; (try dsimp only at hSw); go_simp; try with_reducible rfl
  (try simp only [Act.put, List.setIfInBounds_toArray, List.set_cons_zero, List.set_cons_succ])
  refine wpAnyH_take (i := 2) (oi := { dst := some 134, op := Go.Op.nilCheck (Go.Operand.tmp 133), type := 0, pos := "copies.go:59", after := #[{ on := 1, ground := Go.Ground.data }], guard := none }) (v := ?_) rfl (by kernel_rfl) (by kernel_rfl) (by kernel_rfl) (fun _ _ _ h => h) (Or.inl ⟨by rfl, ?_⟩) (by assumption) ?_
  rotate_left 1
  · intro w hSw; (try dsimp only at hSw); go_simp; try with_reducible rfl
  (try simp only [Act.put, List.setIfInBounds_toArray, List.set_cons_zero, List.set_cons_succ])
  refine wpAnyH_take (i := 3) (oi := { dst := some 135, op := Go.Op.fieldAddr 48 (Go.Operand.tmp 134) 3, type := 0, pos := "copies.go:59", after := #[{ on := 2, ground := Go.Ground.data }], guard := none }) (v := ?_) rfl (by kernel_rfl) (by kernel_rfl) (by kernel_rfl) (fun _ _ _ h => h) (Or.inl ⟨by rfl, ?_⟩) (by assumption) ?_
  rotate_left 1
  · intro w hSw; (try dsimp only at hSw); go_simp; try with_reducible rfl
  (try simp only [Act.put, List.setIfInBounds_toArray, List.set_cons_zero, List.set_cons_succ])
  refine wpAnyH_take (i := 5) (oi := { dst := some 137, op := Go.Op.move (Go.Operand.tmp 1), type := 3, pos := "copies.go:59", after := #[], guard := none }) (v := ?_) rfl (by kernel_rfl) (by kernel_rfl) (by kernel_rfl) (fun _ _ _ h => h) (Or.inl ⟨by rfl, ?_⟩) (by assumption) ?_
  rotate_left 1
  · intro w hSw; (try dsimp only at hSw); go_simp; try with_reducible rfl
  (try simp only [Act.put, List.setIfInBounds_toArray, List.set_cons_zero, List.set_cons_succ])
  refine wpAnyH_take (i := 6) (oi := { dst := some 138, op := Go.Op.move (Go.Operand.tmp 8), type := 55, pos := "copies.go:59", after := #[], guard := none }) (v := ?_) rfl (by kernel_rfl) (by kernel_rfl) (by kernel_rfl) (fun _ _ _ h => h) (Or.inl ⟨by rfl, ?_⟩) (by assumption) ?_
  rotate_left 1
  · intro w hSw; (try dsimp only at hSw); go_simp; try with_reducible rfl
  (try simp only [Act.put, List.setIfInBounds_toArray, List.set_cons_zero, List.set_cons_succ])
  refine wpAnyH_take (i := 7) (oi := { dst := some 139, op := Go.Op.nilCheck (Go.Operand.tmp 138), type := 0, pos := "copies.go:59", after := #[{ on := 6, ground := Go.Ground.data }], guard := none }) (v := ?_) rfl (by kernel_rfl) (by kernel_rfl) (by kernel_rfl) (fun _ _ _ h => h) (Or.inl ⟨by rfl, ?_⟩) (by assumption) ?_
  rotate_left 1
  · intro w hSw; (try dsimp only at hSw); go_simp; try with_reducible rfl
  (try simp only [Act.put, List.setIfInBounds_toArray, List.set_cons_zero, List.set_cons_succ])
  refine wpAnyH_take (i := 8) (oi := { dst := some 140, op := Go.Op.fieldAddr 45 (Go.Operand.tmp 139) 1, type := 0, pos := "copies.go:59", after := #[{ on := 7, ground := Go.Ground.data }], guard := none }) (v := ?_) rfl (by kernel_rfl) (by kernel_rfl) (by kernel_rfl) (fun _ _ _ h => h) (Or.inl ⟨by rfl, ?_⟩) (by assumption) ?_
  rotate_left 1
  · intro w hSw; (try dsimp only at hSw); go_simp; try with_reducible rfl
  (try simp only [Act.put, List.setIfInBounds_toArray, List.set_cons_zero, List.set_cons_succ])
  refine wpAnyH_take (i := 9) (oi := { dst := some 141, op := Go.Op.load 3 (Go.Operand.tmp 140), type := 3, pos := "copies.go:59", after := #[{ on := 8, ground := Go.Ground.data }], guard := none }) (v := ?_) rfl (by kernel_rfl) (by kernel_rfl) (by kernel_rfl) (fun _ _ _ h => h) (Or.inl ⟨by rfl, ?_⟩) (by assumption) ?_
  rotate_left 1
  · intro w hSw; (try dsimp only at hSw); go_simp; try with_reducible rfl
  (try simp only [Act.put, List.setIfInBounds_toArray, List.set_cons_zero, List.set_cons_succ])
  refine wpAnyH_take (i := 10) (oi := { dst := some 142, op := Go.Op.move (Go.Operand.tmp 3), type := 3, pos := "copies.go:59", after := #[], guard := none }) (v := ?_) rfl (by kernel_rfl) (by kernel_rfl) (by kernel_rfl) (fun _ _ _ h => h) (Or.inl ⟨by rfl, ?_⟩) (by assumption) ?_
  rotate_left 1
  · intro w hSw; (try dsimp only at hSw); go_simp; try with_reducible rfl
  (try simp only [Act.put, List.setIfInBounds_toArray, List.set_cons_zero, List.set_cons_succ])
  refine wpAnyH_take (i := 11) (oi := { dst := some 143, op := Go.Op.move (Go.Operand.tmp 8), type := 55, pos := "copies.go:59", after := #[], guard := none }) (v := ?_) rfl (by kernel_rfl) (by kernel_rfl) (by kernel_rfl) (fun _ _ _ h => h) (Or.inl ⟨by rfl, ?_⟩) (by assumption) ?_
  rotate_left 1
  · intro w hSw; (try dsimp only at hSw); go_simp; try with_reducible rfl
  (try simp only [Act.put, List.setIfInBounds_toArray, List.set_cons_zero, List.set_cons_succ])
  refine wpAnyH_take (i := 12) (oi := { dst := some 144, op := Go.Op.nilCheck (Go.Operand.tmp 143), type := 0, pos := "copies.go:59", after := #[{ on := 11, ground := Go.Ground.data }], guard := none }) (v := ?_) rfl (by kernel_rfl) (by kernel_rfl) (by kernel_rfl) (fun _ _ _ h => h) (Or.inl ⟨by rfl, ?_⟩) (by assumption) ?_
  rotate_left 1
  · intro w hSw; (try dsimp only at hSw); go_simp; try with_reducible rfl
  (try simp only [Act.put, List.setIfInBounds_toArray, List.set_cons_zero, List.set_cons_succ])
  refine wpAnyH_take (i := 13) (oi := { dst := some 145, op := Go.Op.fieldAddr 45 (Go.Operand.tmp 144) 2, type := 0, pos := "copies.go:59", after := #[{ on := 12, ground := Go.Ground.data }], guard := none }) (v := ?_) rfl (by kernel_rfl) (by kernel_rfl) (by kernel_rfl) (fun _ _ _ h => h) (Or.inl ⟨by rfl, ?_⟩) (by assumption) ?_
  rotate_left 1
  · intro w hSw; (try dsimp only at hSw); go_simp; try with_reducible rfl
  (try simp only [Act.put, List.setIfInBounds_toArray, List.set_cons_zero, List.set_cons_succ])
  refine wpAnyH_take (i := 14) (oi := { dst := some 146, op := Go.Op.load 4 (Go.Operand.tmp 145), type := 4, pos := "copies.go:59", after := #[{ on := 13, ground := Go.Ground.data }], guard := none }) (v := ?_) rfl (by kernel_rfl) (by kernel_rfl) (by kernel_rfl) (fun _ _ _ h => h) (Or.inl ⟨by rfl, ?_⟩) (by assumption) ?_
  rotate_left 1
  · intro w hSw; (try dsimp only at hSw); go_simp; try with_reducible rfl
  (try simp only [Act.put, List.setIfInBounds_toArray, List.set_cons_zero, List.set_cons_succ])
  refine wpAnyH_take (i := 15) (oi := { dst := some 147, op := Go.Op.move (Go.Operand.tmp 8), type := 55, pos := "copies.go:59", after := #[], guard := none }) (v := ?_) rfl (by kernel_rfl) (by kernel_rfl) (by kernel_rfl) (fun _ _ _ h => h) (Or.inl ⟨by rfl, ?_⟩) (by assumption) ?_
  rotate_left 1
  · intro w hSw; (try dsimp only at hSw); go_simp; try with_reducible rfl
  (try simp only [Act.put, List.setIfInBounds_toArray, List.set_cons_zero, List.set_cons_succ])
  refine wpAnyH_take (i := 16) (oi := { dst := some 148, op := Go.Op.nilCheck (Go.Operand.tmp 147), type := 0, pos := "copies.go:59", after := #[{ on := 15, ground := Go.Ground.data }], guard := none }) (v := ?_) rfl (by kernel_rfl) (by kernel_rfl) (by kernel_rfl) (fun _ _ _ h => h) (Or.inl ⟨by rfl, ?_⟩) (by assumption) ?_
  rotate_left 1
  · intro w hSw; (try dsimp only at hSw); go_simp; try with_reducible rfl
  (try simp only [Act.put, List.setIfInBounds_toArray, List.set_cons_zero, List.set_cons_succ])
  refine wpAnyH_take (i := 17) (oi := { dst := some 149, op := Go.Op.fieldAddr 45 (Go.Operand.tmp 148) 6, type := 0, pos := "copies.go:59", after := #[{ on := 16, ground := Go.Ground.data }], guard := none }) (v := ?_) rfl (by kernel_rfl) (by kernel_rfl) (by kernel_rfl) (fun _ _ _ h => h) (Or.inl ⟨by rfl, ?_⟩) (by assumption) ?_
  rotate_left 1
  · intro w hSw; (try dsimp only at hSw); go_simp; try with_reducible rfl
  (try simp only [Act.put, List.setIfInBounds_toArray, List.set_cons_zero, List.set_cons_succ])
  refine wpAnyH_take (i := 18) (oi := { dst := some 150, op := Go.Op.fieldAddr 43 (Go.Operand.tmp 149) 1, type := 0, pos := "copies.go:59", after := #[{ on := 17, ground := Go.Ground.data }], guard := none }) (v := ?_) rfl (by kernel_rfl) (by kernel_rfl) (by kernel_rfl) (fun _ _ _ h => h) (Or.inl ⟨by rfl, ?_⟩) (by assumption) ?_
  rotate_left 1
  · intro w hSw; (try dsimp only at hSw); go_simp; try with_reducible rfl
  (try simp only [Act.put, List.setIfInBounds_toArray, List.set_cons_zero, List.set_cons_succ])
  refine wpAnyH_take (i := 19) (oi := { dst := some 151, op := Go.Op.load 3 (Go.Operand.tmp 150), type := 3, pos := "copies.go:59", after := #[{ on := 18, ground := Go.Ground.data }], guard := none }) (v := ?_) rfl (by kernel_rfl) (by kernel_rfl) (by kernel_rfl) (fun _ _ _ h => h) (Or.inl ⟨by rfl, ?_⟩) (by assumption) ?_
  rotate_left 1
  · intro w hSw; (try dsimp only at hSw); go_simp; try with_reducible rfl
  (try simp only [Act.put, List.setIfInBounds_toArray, List.set_cons_zero, List.set_cons_succ])
  refine wpAnyH_take (i := 20) (oi := { dst := some 152, op := Go.Op.build 35 #[(0, Go.Operand.tmp 137), (1, Go.Operand.tmp 141), (2, Go.Operand.tmp 142), (3, Go.Operand.tmp 146), (4, Go.Operand.tmp 151)], type := 35, pos := "copies.go:59", after := #[{ on := 5, ground := Go.Ground.data }, { on := 9, ground := Go.Ground.data }, { on := 10, ground := Go.Ground.data }, { on := 14, ground := Go.Ground.data }, { on := 19, ground := Go.Ground.data }], guard := none }) (v := ?_) rfl (by kernel_rfl) (by kernel_rfl) (by kernel_rfl) (fun _ _ _ h => h) (Or.inl ⟨by rfl, ?_⟩) (by assumption) ?_
  rotate_left 1
  · intro w hSw; (try dsimp only at hSw); go_simp; try with_reducible rfl
  (try simp only [Act.put, List.setIfInBounds_toArray, List.set_cons_zero, List.set_cons_succ])
  refine wpAnyH_ready (rs := [4, 21]) (by kernel_rfl) (by simp) ?_
  refine AllReadyH.cons (o := { dst := some 136, op := Go.Op.load 24 (Go.Operand.tmp 135), type := 24, pos := "copies.go:59", after := #[{ on := 3, ground := Go.Ground.data }], guard := none }) rfl (fun K hK => ?_) ?_
  · go_simp
    refine hK.out _ _ ?_ (fun hHeld => ?_)
    · first | go_keep | (go_split_ands; refine ⟨?_, ?_, ?_⟩ <;> (rw [hgrow.cell_far _ (by simp; omega) (Ne.symm hoA)]; assumption)) | (go_split_ands; refine ⟨?_, ?_, ?_⟩ <;> (rw [World.cell?_setCell_other _ _ _ _ (by simp <;> omega)]; assumption))
    clear hK K
    (try simp only [Act.put, List.setIfInBounds_toArray, List.set_cons_zero, List.set_cons_succ])
    refine wpAnyH_ready (rs := [21]) (by kernel_rfl) (by simp) ?_
    refine AllReadyH.cons (o := { dst := some 153, op := Go.Op.buildSlice 24 1 #[(0, Go.Operand.tmp 152)], type := 24, pos := "copies.go:59", after := #[{ on := 20, ground := Go.Ground.data }], guard := none }) rfl (fun K hK => ?_) ?_
    · go_simp
      refine hK.out _ _ ?_ (fun hHeld => ?_)
      · first | go_keep | (go_split_ands; refine ⟨?_, ?_, ?_⟩ <;> (rw [hgrow.cell_far _ (by simp; omega) (Ne.symm hoA)]; assumption)) | (go_split_ands; refine ⟨?_, ?_, ?_⟩ <;> (rw [World.cell?_setCell_other _ _ _ _ (by simp <;> omega)]; assumption))
      clear hK K
      (try simp only [Act.put, List.setIfInBounds_toArray, List.set_cons_zero, List.set_cons_succ])
      refine wpAnyH_ready (rs := [22]) (by kernel_rfl) (by simp) ?_
      refine AllReadyH.cons (o := { dst := some 154, op := Go.Op.call { callee := Go.Callee.builtin Go.Builtin.append, args := #[Go.Operand.tmp 136, Go.Operand.tmp 153], argTypes := #[24, 24] }, type := 24, pos := "copies.go:59", after := #[{ on := 4, ground := Go.Ground.data }, { on := 21, ground := Go.Ground.data }], guard := none }) rfl (fun K hK => ?_) ?_
      · (refine step_append_lies _ (by rfl) _ _ _ (by rfl) B 35 i0 _ 5 40 Try.underlying24 hi0 hz0 hz1 hz2 rfl (by omega) ov _ _ (by rfl) ((HO.out.alloc _).drew) ⟨w12.heap.size, 0, none⟩ 1 1 [.int .i64 i, .int .i64 beg, .int .i64 now, .bool wr, .int .i64 bv] (by rfl) (by rfl) (World.news_of_block (cs := #[.int .i64 i, .int .i64 beg, .int .i64 now, .bool wr, .int .i64 bv]) (t := 35) (fr := (0, 0)) (heap_alloc_new w12 _)) (by simp [Value.oneCell']) (by omega) (by show s.ops.length + 1 ≤ maxLen; unfold maxLen; omega) (by show (s.ops.length + 1) * 40 ≤ _; omega) (by simp; omega) (w12.heap.size + 1) (by simp) ?_; intro gg cap wn hown1 hgrow hat hlt; have hc50 : wn.cell? ⟨ba, 50, none⟩ = some ov := (hgrow.cell_far ⟨ba, 50, none⟩ (by simp; omega) (Ne.symm hoA)).trans (by rw [World.cell?_drew, World.cell?_alloc_past _ _ _ hlA]; exact c50); have hfz : wn.frozen? ⟨ba, 50, none⟩ = false := (hgrow.frozen_far ⟨ba, 50, none⟩ (by simp; omega) (Ne.symm hoA)).trans (by rw [World.frozen?_drew, World.frozen?_alloc_past _ _ _ hlA]; exact hz 50))
        refine hK.out _ _ ?_ (fun hHeld => ?_)
        · first | go_keep | (go_split_ands; refine ⟨?_, ?_, ?_⟩ <;> (rw [hgrow.cell_far _ (by simp; omega) (Ne.symm hoA)]; assumption)) | (go_split_ands; refine ⟨?_, ?_, ?_⟩ <;> (rw [World.cell?_setCell_other _ _ _ _ (by simp <;> omega)]; assumption))
        clear hK K
        (try simp only [Act.put, List.setIfInBounds_toArray, List.set_cons_zero, List.set_cons_succ])
        refine wpAnyH_take (i := 23) (oi := { dst := some 155, op := Go.Op.nilCheck (Go.Operand.tmp 132), type := 0, pos := "copies.go:59", after := #[{ on := 0, ground := Go.Ground.data }, { on := 0, ground := Go.Ground.phase }, { on := 1, ground := Go.Ground.phase }, { on := 2, ground := Go.Ground.phase }, { on := 3, ground := Go.Ground.phase }, { on := 4, ground := Go.Ground.phase }, { on := 5, ground := Go.Ground.phase }, { on := 6, ground := Go.Ground.phase }, { on := 7, ground := Go.Ground.phase }, { on := 8, ground := Go.Ground.phase }, { on := 9, ground := Go.Ground.phase }, { on := 10, ground := Go.Ground.phase }, { on := 11, ground := Go.Ground.phase }, { on := 12, ground := Go.Ground.phase }, { on := 13, ground := Go.Ground.phase }, { on := 14, ground := Go.Ground.phase }, { on := 15, ground := Go.Ground.phase }, { on := 16, ground := Go.Ground.phase }, { on := 17, ground := Go.Ground.phase }, { on := 18, ground := Go.Ground.phase }, { on := 19, ground := Go.Ground.phase }, { on := 20, ground := Go.Ground.phase }, { on := 21, ground := Go.Ground.phase }, { on := 22, ground := Go.Ground.phase }], guard := none }) (v := ?_) rfl (by kernel_rfl) (by kernel_rfl) (by kernel_rfl) (fun _ _ _ h => h) (Or.inl ⟨by rfl, ?_⟩) (by assumption) ?_
        rotate_left 1
        · intro w hSw; (try dsimp only at hSw); go_simp; try with_reducible rfl
        (try simp only [Act.put, List.setIfInBounds_toArray, List.set_cons_zero, List.set_cons_succ])
        refine wpAnyH_take (i := 24) (oi := { dst := some 156, op := Go.Op.fieldAddr 48 (Go.Operand.tmp 155) 3, type := 0, pos := "copies.go:59", after := #[{ on := 23, ground := Go.Ground.data }, { on := 0, ground := Go.Ground.phase }, { on := 1, ground := Go.Ground.phase }, { on := 2, ground := Go.Ground.phase }, { on := 3, ground := Go.Ground.phase }, { on := 4, ground := Go.Ground.phase }, { on := 5, ground := Go.Ground.phase }, { on := 6, ground := Go.Ground.phase }, { on := 7, ground := Go.Ground.phase }, { on := 8, ground := Go.Ground.phase }, { on := 9, ground := Go.Ground.phase }, { on := 10, ground := Go.Ground.phase }, { on := 11, ground := Go.Ground.phase }, { on := 12, ground := Go.Ground.phase }, { on := 13, ground := Go.Ground.phase }, { on := 14, ground := Go.Ground.phase }, { on := 15, ground := Go.Ground.phase }, { on := 16, ground := Go.Ground.phase }, { on := 17, ground := Go.Ground.phase }, { on := 18, ground := Go.Ground.phase }, { on := 19, ground := Go.Ground.phase }, { on := 20, ground := Go.Ground.phase }, { on := 21, ground := Go.Ground.phase }, { on := 22, ground := Go.Ground.phase }], guard := none }) (v := ?_) rfl (by kernel_rfl) (by kernel_rfl) (by kernel_rfl) (fun _ _ _ h => h) (Or.inl ⟨by rfl, ?_⟩) (by assumption) ?_
        rotate_left 1
        · intro w hSw; (try dsimp only at hSw); go_simp; try with_reducible rfl
        (try simp only [Act.put, List.setIfInBounds_toArray, List.set_cons_zero, List.set_cons_succ])
        refine wpAnyH_ready (rs := [25]) (by kernel_rfl) (by simp) ?_
        refine AllReadyH.cons (o := { dst := none, op := Go.Op.store 24 (Go.Operand.tmp 156) (Go.Operand.tmp 154), type := 0, pos := "copies.go:59", after := #[{ on := 24, ground := Go.Ground.data }, { on := 22, ground := Go.Ground.data }, { on := 22, ground := Go.Ground.chain }, { on := 0, ground := Go.Ground.phase }, { on := 1, ground := Go.Ground.phase }, { on := 2, ground := Go.Ground.phase }, { on := 3, ground := Go.Ground.phase }, { on := 4, ground := Go.Ground.phase }, { on := 5, ground := Go.Ground.phase }, { on := 6, ground := Go.Ground.phase }, { on := 7, ground := Go.Ground.phase }, { on := 8, ground := Go.Ground.phase }, { on := 9, ground := Go.Ground.phase }, { on := 10, ground := Go.Ground.phase }, { on := 11, ground := Go.Ground.phase }, { on := 12, ground := Go.Ground.phase }, { on := 13, ground := Go.Ground.phase }, { on := 14, ground := Go.Ground.phase }, { on := 15, ground := Go.Ground.phase }, { on := 16, ground := Go.Ground.phase }, { on := 17, ground := Go.Ground.phase }, { on := 18, ground := Go.Ground.phase }, { on := 19, ground := Go.Ground.phase }, { on := 20, ground := Go.Ground.phase }, { on := 21, ground := Go.Ground.phase }, { on := 22, ground := Go.Ground.phase }], guard := none }) rfl (fun K hK => ?_) ?_
        · go_simp
          refine hK.out _ _ ?_ (fun hHeld => ?_)
          · first | go_keep | (go_split_ands; refine ⟨?_, ?_, ?_⟩ <;> (rw [hgrow.cell_far _ (by simp; omega) (Ne.symm hoA)]; assumption)) | (go_split_ands; refine ⟨?_, ?_, ?_⟩ <;> (rw [World.cell?_setCell_other _ _ _ _ (by simp <;> omega)]; assumption))
          clear hK K
          (try simp only [Act.put, List.setIfInBounds_toArray, List.set_cons_zero, List.set_cons_succ])
          refine wpAnyH_done (by kernel_rfl) ?_ _
          go_wp2
          (try simp only [Exit.inBlock, Exit.then])
          refine bodyPost_end (results_none rfl _ _ _) rfl ?_
          have hpush := H.out.push ⟨i, beg, now, wr, bv⟩ rfl rfl hown1 hgrow hat
          refine ⟨(by first | rfl | exact trivial), ?_, Fr.trans (by assumption) (Lat.refl _ _) hpush.2.1⟩
          have hb' : ¬ ks < bs := by have := HB.out; omega
          have e : reach s i t ⟨2, beg, wr, val, rd, many, bs, bv⟩ ⟨ks, kv⟩ now = { putc s i ⟨0, beg, wr, val, 0, 0, bs, bv⟩ with ops := s.ops ++ [⟨i, beg, now, wr, bv⟩] } := by
            simp [reach, meet, turn, hb', hq, E1.out, putc, show ¬ 2 * (many + 1) ≤ (s.l.length : Int) by omega]
          rw [e]
          exact ⟨_, hpush.1, fun k hk e => hpush.2.2 k (Nat.lt_of_lt_of_le hk (Fr.size (by assumption))) e⟩
        exact AllReadyH.nil
      exact AllReadyH.nil
    exact AllReadyH.nil
  refine AllReadyH.cons (o := { dst := some 153, op := Go.Op.buildSlice 24 1 #[(0, Go.Operand.tmp 152)], type := 24, pos := "copies.go:59", after := #[{ on := 20, ground := Go.Ground.data }], guard := none }) rfl (fun K hK => ?_) ?_
  · go_simp
    refine hK.out _ _ ?_ (fun hHeld => ?_)
    · first | go_keep | (go_split_ands; refine ⟨?_, ?_, ?_⟩ <;> (rw [hgrow.cell_far _ (by simp; omega) (Ne.symm hoA)]; assumption)) | (go_split_ands; refine ⟨?_, ?_, ?_⟩ <;> (rw [World.cell?_setCell_other _ _ _ _ (by simp <;> omega)]; assumption))
    clear hK K
    (try simp only [Act.put, List.setIfInBounds_toArray, List.set_cons_zero, List.set_cons_succ])
    refine wpAnyH_ready (rs := [4]) (by kernel_rfl) (by simp) ?_
    refine AllReadyH.cons (o := { dst := some 136, op := Go.Op.load 24 (Go.Operand.tmp 135), type := 24, pos := "copies.go:59", after := #[{ on := 3, ground := Go.Ground.data }], guard := none }) rfl (fun K hK => ?_) ?_
    · go_simp
      refine hK.out _ _ ?_ (fun hHeld => ?_)
      · first | go_keep | (go_split_ands; refine ⟨?_, ?_, ?_⟩ <;> (rw [hgrow.cell_far _ (by simp; omega) (Ne.symm hoA)]; assumption)) | (go_split_ands; refine ⟨?_, ?_, ?_⟩ <;> (rw [World.cell?_setCell_other _ _ _ _ (by simp <;> omega)]; assumption))
      clear hK K
      (try simp only [Act.put, List.setIfInBounds_toArray, List.set_cons_zero, List.set_cons_succ])
      refine wpAnyH_ready (rs := [22]) (by kernel_rfl) (by simp) ?_
      refine AllReadyH.cons (o := { dst := some 154, op := Go.Op.call { callee := Go.Callee.builtin Go.Builtin.append, args := #[Go.Operand.tmp 136, Go.Operand.tmp 153], argTypes := #[24, 24] }, type := 24, pos := "copies.go:59", after := #[{ on := 4, ground := Go.Ground.data }, { on := 21, ground := Go.Ground.data }], guard := none }) rfl (fun K hK => ?_) ?_
      · (refine step_append_lies _ (by rfl) _ _ _ (by rfl) B 35 i0 _ 5 40 Try.underlying24 hi0 hz0 hz1 hz2 rfl (by omega) ov _ _ (by rfl) ((HO.out.alloc _).drew) ⟨w12.heap.size, 0, none⟩ 1 1 [.int .i64 i, .int .i64 beg, .int .i64 now, .bool wr, .int .i64 bv] (by rfl) (by rfl) (World.news_of_block (cs := #[.int .i64 i, .int .i64 beg, .int .i64 now, .bool wr, .int .i64 bv]) (t := 35) (fr := (0, 0)) (heap_alloc_new w12 _)) (by simp [Value.oneCell']) (by omega) (by show s.ops.length + 1 ≤ maxLen; unfold maxLen; omega) (by show (s.ops.length + 1) * 40 ≤ _; omega) (by simp; omega) (w12.heap.size + 1) (by simp) ?_; intro gg cap wn hown1 hgrow hat hlt; have hc50 : wn.cell? ⟨ba, 50, none⟩ = some ov := (hgrow.cell_far ⟨ba, 50, none⟩ (by simp; omega) (Ne.symm hoA)).trans (by rw [World.cell?_drew, World.cell?_alloc_past _ _ _ hlA]; exact c50); have hfz : wn.frozen? ⟨ba, 50, none⟩ = false := (hgrow.frozen_far ⟨ba, 50, none⟩ (by simp; omega) (Ne.symm hoA)).trans (by rw [World.frozen?_drew, World.frozen?_alloc_past _ _ _ hlA]; exact hz 50))
        refine hK.out _ _ ?_ (fun hHeld => ?_)
        · first | go_keep | (go_split_ands; refine ⟨?_, ?_, ?_⟩ <;> (rw [hgrow.cell_far _ (by simp; omega) (Ne.symm hoA)]; assumption)) | (go_split_ands; refine ⟨?_, ?_, ?_⟩ <;> (rw [World.cell?_setCell_other _ _ _ _ (by simp <;> omega)]; assumption))
        clear hK K
        (try simp only [Act.put, List.setIfInBounds_toArray, List.set_cons_zero, List.set_cons_succ])
        refine wpAnyH_take (i := 23) (oi := { dst := some 155, op := Go.Op.nilCheck (Go.Operand.tmp 132), type := 0, pos := "copies.go:59", after := #[{ on := 0, ground := Go.Ground.data }, { on := 0, ground := Go.Ground.phase }, { on := 1, ground := Go.Ground.phase }, { on := 2, ground := Go.Ground.phase }, { on := 3, ground := Go.Ground.phase }, { on := 4, ground := Go.Ground.phase }, { on := 5, ground := Go.Ground.phase }, { on := 6, ground := Go.Ground.phase }, { on := 7, ground := Go.Ground.phase }, { on := 8, ground := Go.Ground.phase }, { on := 9, ground := Go.Ground.phase }, { on := 10, ground := Go.Ground.phase }, { on := 11, ground := Go.Ground.phase }, { on := 12, ground := Go.Ground.phase }, { on := 13, ground := Go.Ground.phase }, { on := 14, ground := Go.Ground.phase }, { on := 15, ground := Go.Ground.phase }, { on := 16, ground := Go.Ground.phase }, { on := 17, ground := Go.Ground.phase }, { on := 18, ground := Go.Ground.phase }, { on := 19, ground := Go.Ground.phase }, { on := 20, ground := Go.Ground.phase }, { on := 21, ground := Go.Ground.phase }, { on := 22, ground := Go.Ground.phase }], guard := none }) (v := ?_) rfl (by kernel_rfl) (by kernel_rfl) (by kernel_rfl) (fun _ _ _ h => h) (Or.inl ⟨by rfl, ?_⟩) (by assumption) ?_
        rotate_left 1
        · intro w hSw; (try dsimp only at hSw); go_simp; try with_reducible rfl
        (try simp only [Act.put, List.setIfInBounds_toArray, List.set_cons_zero, List.set_cons_succ])
        refine wpAnyH_take (i := 24) (oi := { dst := some 156, op := Go.Op.fieldAddr 48 (Go.Operand.tmp 155) 3, type := 0, pos := "copies.go:59", after := #[{ on := 23, ground := Go.Ground.data }, { on := 0, ground := Go.Ground.phase }, { on := 1, ground := Go.Ground.phase }, { on := 2, ground := Go.Ground.phase }, { on := 3, ground := Go.Ground.phase }, { on := 4, ground := Go.Ground.phase }, { on := 5, ground := Go.Ground.phase }, { on := 6, ground := Go.Ground.phase }, { on := 7, ground := Go.Ground.phase }, { on := 8, ground := Go.Ground.phase }, { on := 9, ground := Go.Ground.phase }, { on := 10, ground := Go.Ground.phase }, { on := 11, ground := Go.Ground.phase }, { on := 12, ground := Go.Ground.phase }, { on := 13, ground := Go.Ground.phase }, { on := 14, ground := Go.Ground.phase }, { on := 15, ground := Go.Ground.phase }, { on := 16, ground := Go.Ground.phase }, { on := 17, ground := Go.Ground.phase }, { on := 18, ground := Go.Ground.phase }, { on := 19, ground := Go.Ground.phase }, { on := 20, ground := Go.Ground.phase }, { on := 21, ground := Go.Ground.phase }, { on := 22, ground := Go.Ground.phase }], guard := none }) (v := ?_) rfl (by kernel_rfl) (by kernel_rfl) (by kernel_rfl) (fun _ _ _ h => h) (Or.inl ⟨by rfl, ?_⟩) (by assumption) ?_
        rotate_left 1
        · intro w hSw; (try dsimp only at hSw); go_simp; try with_reducible rfl
        (try simp only [Act.put, List.setIfInBounds_toArray, List.set_cons_zero, List.set_cons_succ])
        refine wpAnyH_ready (rs := [25]) (by kernel_rfl) (by simp) ?_
        refine AllReadyH.cons (o := { dst := none, op := Go.Op.store 24 (Go.Operand.tmp 156) (Go.Operand.tmp 154), type := 0, pos := "copies.go:59", after := #[{ on := 24, ground := Go.Ground.data }, { on := 22, ground := Go.Ground.data }, { on := 22, ground := Go.Ground.chain }, { on := 0, ground := Go.Ground.phase }, { on := 1, ground := Go.Ground.phase }, { on := 2, ground := Go.Ground.phase }, { on := 3, ground := Go.Ground.phase }, { on := 4, ground := Go.Ground.phase }, { on := 5, ground := Go.Ground.phase }, { on := 6, ground := Go.Ground.phase }, { on := 7, ground := Go.Ground.phase }, { on := 8, ground := Go.Ground.phase }, { on := 9, ground := Go.Ground.phase }, { on := 10, ground := Go.Ground.phase }, { on := 11, ground := Go.Ground.phase }, { on := 12, ground := Go.Ground.phase }, { on := 13, ground := Go.Ground.phase }, { on := 14, ground := Go.Ground.phase }, { on := 15, ground := Go.Ground.phase }, { on := 16, ground := Go.Ground.phase }, { on := 17, ground := Go.Ground.phase }, { on := 18, ground := Go.Ground.phase }, { on := 19, ground := Go.Ground.phase }, { on := 20, ground := Go.Ground.phase }, { on := 21, ground := Go.Ground.phase }, { on := 22, ground := Go.Ground.phase }], guard := none }) rfl (fun K hK => ?_) ?_
        · go_simp
          refine hK.out _ _ ?_ (fun hHeld => ?_)
          · first | go_keep | (go_split_ands; refine ⟨?_, ?_, ?_⟩ <;> (rw [hgrow.cell_far _ (by simp; omega) (Ne.symm hoA)]; assumption)) | (go_split_ands; refine ⟨?_, ?_, ?_⟩ <;> (rw [World.cell?_setCell_other _ _ _ _ (by simp <;> omega)]; assumption))
          clear hK K
          (try simp only [Act.put, List.setIfInBounds_toArray, List.set_cons_zero, List.set_cons_succ])
          refine wpAnyH_done (by kernel_rfl) ?_ _
          go_wp2
          (try simp only [Exit.inBlock, Exit.then])
          refine bodyPost_end (results_none rfl _ _ _) rfl ?_
          have hpush := H.out.push ⟨i, beg, now, wr, bv⟩ rfl rfl hown1 hgrow hat
          refine ⟨(by first | rfl | exact trivial), ?_, Fr.trans (by assumption) (Lat.refl _ _) hpush.2.1⟩
          have hb' : ¬ ks < bs := by have := HB.out; omega
          have e : reach s i t ⟨2, beg, wr, val, rd, many, bs, bv⟩ ⟨ks, kv⟩ now = { putc s i ⟨0, beg, wr, val, 0, 0, bs, bv⟩ with ops := s.ops ++ [⟨i, beg, now, wr, bv⟩] } := by
            simp [reach, meet, turn, hb', hq, E1.out, putc, show ¬ 2 * (many + 1) ≤ (s.l.length : Int) by omega]
          rw [e]
          exact ⟨_, hpush.1, fun k hk e => hpush.2.2 k (Nat.lt_of_lt_of_le hk (Fr.size (by assumption))) e⟩
        exact AllReadyH.nil
      exact AllReadyH.nil
    exact AllReadyH.nil
  exact AllReadyH.nil

end Go.Proofs.Ytbibibpliahclaa.Cp
