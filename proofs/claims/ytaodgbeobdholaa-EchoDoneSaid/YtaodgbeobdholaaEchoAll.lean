/-
  The walk through EchoAll.
-/
import Derived.Test.YtaodgbeobdholaaEchoRef2
import Derived.Test.YtaodgbeobdholaaZeros
namespace Go.Proofs.Ytaodgbeobdholaa.Ec
open Go Go.RowKit Mem

theorem okL_cast {n start : Int} {L : List (Int × Int)} {m : Nat} (h : OkL n L start m) : ∃ (k s : Nat) (M : List (Nat × Nat)), n = k ∧ start = s ∧ L = castL M ∧ Good k M ∧ s < k ∧ M.length = L.length := by
  obtain ⟨k, hk⟩ : ∃ k : Nat, n = k := ⟨n.toNat, by have := h.n1; omega⟩
  obtain ⟨s, hs⟩ : ∃ k : Nat, start = k := ⟨start.toNat, by have := h.s0; omega⟩
  subst hk hs
  have hc : castL (L.map fun l => (l.1.toNat, l.2.toNat)) = L := by
    unfold castL
    rw [List.map_map]
    conv => rhs; rw [← List.map_id L]
    refine List.map_congr_left fun l hl => ?_
    obtain ⟨h1, h2, _⟩ := h.good l hl
    obtain ⟨a, b⟩ := l
    simp at h1 h2 ⊢
    omega
  refine ⟨k, s, L.map fun l => (l.1.toNat, l.2.toNat), rfl, rfl, hc.symm, ⟨fun l hl => ?_, ?_⟩, by have := h.s1; omega, by simp⟩
  · obtain ⟨⟨a, b⟩, hab, rfl⟩ := List.mem_map.1 hl
    obtain ⟨h1, h2, h3, h4, h5⟩ := h.good _ hab
    simp at h1 h2 h3 h4 h5 ⊢
    omega
  · rw [List.pairwise_iff_getElem]
    intro i j hi hj hij
    simp at hi hj
    have ho := h.once j hj L[j] (List.getElem?_eq_getElem hj)
    have hm : L[i] ∈ L.take j := by rw [List.mem_take_iff_getElem]; exact ⟨i, by omega, rfl⟩
    have gi := h.good _ (List.getElem_mem hi)
    have gj := h.good _ (List.getElem_mem hj)
    rw [List.getElem_map, List.getElem_map]
    obtain ⟨g1, g2, _⟩ := gi
    obtain ⟨g3, g4, _⟩ := gj
    refine ⟨fun e => ?_, fun e => ?_⟩
    · have : L[i] = L[j] := by
        apply Prod.ext
        · have := congrArg Prod.fst e; simp at this; omega
        · have := congrArg Prod.snd e; simp at this; omega
      exact ho.1 (this ▸ hm)
    · have : L[i] = (L[j].2, L[j].1) := by
        apply Prod.ext
        · have := congrArg Prod.fst e; simp at this; simp; omega
        · have := congrArg Prod.snd e; simp at this; simp; omega
      exact ho.2 (this ▸ hm)
theorem all_zero {n start : Nat} {M : List (Nat × Nat)} {P : Nat → List Nat} (G : Good n M) (hs : start < n) (h15 : M.length ≤ 15) (hP : ∀ i, (P i).Perm (nearOf M i)) (O : List Int) : (play P start (O ++ List.replicate 30 0)).wait start = 0 := by
  have N := net G hP
  obtain ⟨J, R, h⟩ := (Inv.init N start).moves N O
  obtain ⟨J2, R2, h2, hc⟩ := h.zeros N 30
  have e : play P start (O ++ List.replicate 30 0) = (List.replicate 30 (0 : Int)).foldl (ES.move P) (O.foldl (ES.move P) (ES.init P start)) := by
    unfold play; rw [List.foldl_append]
  rw [e]
  refine h2.still N ?_
  rcases hc with hc | hc
  · exact hc
  · have hb := h2.sent
    have hb2 := (h2.bound G hs).1
    rw [List.length_append] at hb
    exact List.eq_nil_of_length_eq_zero (by omega)

def ints (C : List Int) : List Value := C.map (Value.int .i64)
theorem zeros30 : zerosOf (.int .i64 0) 30 = ints (List.replicate 30 0) := by kernel_rfl
/-- append of an argument's ints to a row that the call owns -/
theorem wpList_append_ints {w : World} {ops : Array Oper} {rest : List Oper} {o : Oper} {a : Act} {Q : Exit → Act → World → Prop} {s x : Operand} {i : TypeInfo} (hi : Try.prog.info? 3 = some i) (hz : i.zero = some (.int .i64 0)) (hsize : i.size = 1) (hby : i.bytes = 8)
    {base : Nat} {v : Value} {n : Nat} {xs : List Value} (hown : w.ownsRow base 3 1 v n xs) {oo : Option Addr} {oc : Nat} {C : List Int} (hC : IntsAt w oo C) (hnil : oo = none → oc = 0)
    (hgd : o.guard = none) (ho : o.op = .call { callee := .builtin .append, args := #[s, x], argTypes := #[23, 23] }) (hs : a.eval s = v) (hx : a.eval x = .slice oo C.length oc)
    (hn : n ≤ 1000) (hc : C.length ≤ 1000) (hbase : base ≤ w.heap.size)
    (h : ∀ v' w', w'.ownsRow base 3 1 v' (n + C.length) (xs ++ ints C) → w.grownBy w' v.ownBlock → wpList Try.prog ops Q rest (a.put o.dst v') w') : wpList Try.prog ops Q (o :: rest) a w := by
  cases oo with
  | none =>
    have hC0 : C = [] := by
      apply Classical.byContradiction
      intro hne
      obtain ⟨b, off, e, _⟩ := hC hne
      cases e
    subst hC0
    rw [hnil rfl] at hx
    refine wpList_append_own_none hgd s x 23 ho base 3 i 1 Try.underlying23 hi v n xs hs hown hx ?_
    have := h v w
    simp [ints] at this
    exact this hown (World.grownBy.refl _ _)
  | some ad =>
    refine wpList_append_own w hgd s x 23 ho base 3 i _ 1 8 Try.underlying23 hi hz hsize hby rfl (by omega) v n xs hs hown ad C.length oc (ints C) hx (by simp [ints]) ?_ (by simp [ints, Value.oneCell']) (by unfold maxLen; omega) (by omega) hbase (fun v' w' h2 h3 _ => h v' w' h2 h3)
    intro j u hj
    have hne : C ≠ [] := by rintro rfl; simp [ints] at hj
    obtain ⟨b, off, e, hcell⟩ := hC hne
    cases e
    simp [ints] at hj
    obtain ⟨y, hy, rfl⟩ := hj
    rw [WideShapes.add_plain]
    exact hcell j y hy
theorem ints_at {w : World} {base : Nat} {v : Value} {n : Nat} {C : List Int} (hown : w.ownsRow base 3 1 v n (ints C)) : ∃ oa cap, v = .slice oa C.length cap ∧ IntsAt w oa C ∧ n = C.length := by
  have hl : C.length = n := by have := hown.1; simpa [ints] using this
  rcases hown.2 with ⟨h1, h2⟩ | ⟨g, cap, cur, h1, h2⟩
  · exact ⟨none, 0, by rw [h1, hl, h2], fun hne => absurd (List.eq_nil_of_length_eq_zero (by omega)) hne, hl.symm⟩
  · refine ⟨some ⟨g, 0, none⟩, cap, by rw [h1, hl], fun _ => ⟨g, 0, rfl, fun k x hk => ?_⟩, hl.symm⟩
    have := hown.cells (g := g) (by rw [h1]; rfl) k (.int .i64 x) (by simp [ints, hk])
    rwa [WideShapes.add_plain] at this

set_option maxHeartbeats 4000000 in
set_option maxRecDepth 100000 in
theorem echo_all (n start : Int) (ao oo : Option Addr) (cap oc : Nat) (L : List (Int × Int)) (O : List Int) (w : World) (hcap : L.length ≤ cap) (hL : LinksAt w ao L) (hO : IntsAt w oo O) (hnil : oo = none → oc = 0) (hm : (O.length : Int) ≤ 9223372036854775807) :
    Calls Try.prog 6 #[.int .i64 n, .slice ao L.length cap, .int .i64 start, .slice oo O.length oc] w fun e w' => e = .returned (.bool true) ∧ Below w.heap.size w w' := by
  by_cases h30 : (30 : Int) < O.length
  · go_enter Try.func6, Try.ntmps6
    go_wp2
    go_ret
    exact ⟨by first | rfl | trivial, Below.refl _ _⟩
  obtain ⟨i0, hi0, hz0, hz1, hz2⟩ := info_parts info3
  have HL := Lib.hid hL
  have HO := Lib.hid hO
  have HNIL := Lib.hid hnil
  clear hL hO hnil
  go_enter Try.func6, Try.ntmps6
  go_wp2_with (at_builtin; refine wpList_append_ints hi0 hz0 hz1 hz2 (empty_row w (Nat.le_refl _) 3 1) (HO.out.later ((Below.refl _ _).alloc (Nat.le_refl _) _)) HNIL.out rfl rfl rfl rfl (by omega) (by omega) (by simp) ?_)
  intro v1 w1 hown1 hg1
  have hb1 : Below w.heap.size w w1 := ((Below.refl _ _).alloc (Nat.le_refl _) _).grown hg1 (by simp) (fun q hq => by simp [Value.ownBlock] at hq; omega)
  have HB1 := Lib.hid hb1
  have HOWN1 := Lib.hid hown1
  have hws1 := hb1.size
  clear hown1 hb1 hg1
  go_wp2_with (at_builtin; refine wpList_append_zeros Try.underlying23 Try.underlying3 hi0 hz0 hz1 hz2 rfl HOWN1.out 30 rfl rfl rfl rfl (by omega) (by omega) (by omega) (by omega) (by omega) (by rw [zeros30]; rfl) hws1 ?_)
  intro v2 w2 hown2 hg2
  have hb2 : Below w.heap.size w w2 := HB1.out.grown hg2 hws1 (fun q hq => (HOWN1.out.lt q hq).1)
  have e2 : ints O ++ zerosOf (.int .i64 0) 30 = ints (O ++ List.replicate 30 0) := by rw [zeros30]; simp [ints]
  rw [e2] at hown2
  obtain ⟨oa, oc2, hv2, hia, hlen⟩ := ints_at hown2
  subst hv2
  obtain ⟨O2, hO2⟩ : ∃ O2, O2 = O ++ List.replicate 30 0 := ⟨_, rfl⟩
  rw [← hO2] at hia hlen ⊢
  have HO2 := Lib.hid hO2
  have HIA := Lib.hid hia
  have HB2 := Lib.hid hb2
  have hO2l : (O2.length : Int) ≤ 60 := by omega
  have HLEN := Lib.hid hlen
  clear hown2 hg2 hb2 e2 hO2 hia hlen HOWN1
  by_cases hok : OkL n L start O2.length
  · have HOK := Lib.hid hok
    obtain ⟨k, st, M, rfl, rfl, rfl, G, hst, hMl⟩ := okL_cast hok
    have hp := play_good k st ao oa cap oc2 M O2 w2 (by omega) (HL.out.later HB2.out) HIA.out HOK.out G
    rw [hMl] at hp
    have HP := Lib.hid hp
    have HG := Lib.hid G
    have h15 : M.length ≤ 15 := by have := hok.l15; omega
    clear hok hp G hMl
    go_wp2_with fail
    refine HP.out.mono ?_
    clear HP
    rintro e w3 ⟨P, ca, cc, fb, hP, rfl, hfb, hb3⟩
    have hdone : (play P st O2).wait st = 0 := by rw [HO2.out]; exact all_zero HG.out hst h15 hP O
    have hdone2 : ((play P st O2).wait st == 0) = true := by simpa using hdone
    have HB3 := Lib.hid (HB2.out.trans (hb3.mono HB2.out.size))
    unfold sl
    rw [hdone2]
    generalize ((play P st O2).sent : Int) = snt
    clear hb3 hP hfb hdone hdone2
    go_wp2_with fail
    refine (linked_any _ _ ao cap O2.length _ _ hcap (HL.out.later (HB3.out.alloc HB3.out.size _)) (by omega)).mono ?_
    rintro e w4 ⟨⟨b, rfl, hbo⟩, hb4⟩
    obtain rfl : b = true := hbo.2 HOK.out
    have hlk := (Blk.new w3 [.slice ca O2.length cc, .slice (some ⟨fb, 0, none⟩) k k, .bool true, .int .i64 snt] 33).below hb4 (by simp)
    have z0 := hlk.cell (o := 0) rfl
    have z2 := hlk.cell (o := 2) rfl
    have HB4 := Lib.hid ((HB3.out.alloc HB3.out.size (.cells #[.slice ca O2.length cc, .slice (some ⟨fb, 0, none⟩) k k, .bool true, .int .i64 snt] 33)).trans (hb4.mono (by have := HB3.out.size; simp; omega)))
    clear hbo hb4 hlk
    go_wp2
    go_ret
    exact ⟨by first | rfl | trivial, HB4.out⟩
  · have HNO := Lib.hid hok
    clear hok
    go_wp2_with fail
    refine (play_bad n start ao oa cap oc2 O2.length L _ hcap (HL.out.later HB2.out) (by omega) HNO.out).mono ?_
    rintro e w3 ⟨⟨r, rfl, hr⟩, hb3⟩
    unfold echo0
    have HB3 := Lib.hid (HB2.out.trans (hb3.mono HB2.out.size))
    clear hb3
    go_wp2_with fail
    refine (linked_any n start ao cap O2.length L _ hcap (HL.out.later (HB3.out.alloc HB3.out.size _)) (by omega)).mono ?_
    rintro e w4 ⟨⟨b, rfl, hbo⟩, hb4⟩
    obtain rfl : b = false := by
      cases b with
      | false => rfl
      | true => exact absurd (hbo.1 rfl) HNO.out
    have HB4 := Lib.hid ((HB3.out.alloc HB3.out.size (.cells #[.slice none 0 0, .slice none 0 0, .bool false, .int .i64 0] 33)).trans (hb4.mono (by have := HB3.out.size; simp; omega)))
    have HR : Hid ((r != 0) = true) := Lib.hid (by simpa using hr)
    clear hbo hb4
    go_wp2
    go_ret
    exact ⟨congrArg (fun b => Ending.returned (.bool b)) HR.out, HB4.out⟩
end Go.Proofs.Ytaodgbeobdholaa.Ec
