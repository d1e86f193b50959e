/-
  The walk through EchoDone.
-/
import Derived.Test.YtaodgbeobdholaaEchoAll
import Derived.Deep.QuietTactic
import Derived.BigQuiet
namespace Go.Proofs.Ytaodgbeobdholaa.Ec
open Go Go.RowKit Mem

def own (M : List (Nat × Nat)) (v : Nat) : Nat := (M.filter fun l => v.testBit l.1).length
theorem own_take (M : List (Nat × Nat)) (v k : Nat) (l : Nat × Nat) (h : M[k]? = some l) : own (M.take (k + 1)) v = own (M.take k) v + if v.testBit l.1 = true then 1 else 0 := by
  have e : M.take (k + 1) = M.take k ++ [l] := by rw [List.take_add_one, h]; rfl
  rw [e]
  unfold own
  rw [List.filter_append, List.length_append]
  by_cases hb : v.testBit l.1 = true <;> simp [hb]
theorem own_le (M : List (Nat × Nat)) (v : Nat) : own M v ≤ M.length := List.length_filter_le _ _
/-- what the plain law says of the end -/
structure Ends (n start : Nat) (M : List (Nat × Nat)) (v : Nat) (s : ES) : Prop where
  few : s.sent ≤ 2 * own M v
  more : s.wait start ≠ 0 → 0 < own M v
  all : s.wait start = 0 → (∀ i, i < n → i ≠ start → v.testBit i = decide (0 ≤ s.frm i)) ∧ s.sent = 2 * own M v
theorem ends {n start : Nat} {M : List (Nat × Nat)} {P : Nat → List Nat} (G : Good n M) (hs : start < n) (hP : ∀ i, (P i).Perm (nearOf M i)) (O : List Int) : Ends n start M (jns M n (2 ^ start)) (play P start O) := by
  have N := net G hP
  obtain ⟨J, R, h⟩ := (Inv.init N start).moves N O
  have hL : ∀ l ∈ M, l.1 < n ∧ l.2 < n := fun l hl => ⟨(G.lt l hl).1, (G.lt l hl).2.1⟩
  have hc := jns_closed hs hL
  have hst := jns_start M start n
  have hm : ∀ T : Nat → Prop, (∀ l ∈ M, T l.1 ∨ T l.2 → T l.1 ∧ T l.2) → T start → ∀ i, (jns M n (2 ^ start)).testBit i = true → T i := fun T hT h0 => jns_sub hT (fun i hi => by
    rw [Nat.testBit_two_pow] at hi; simp at hi; exact hi ▸ h0) n
  refine ⟨few h hc hst, fun hw => ?_, fun hw => ?_⟩
  · have hne : P start ≠ [] := by
      intro e
      have h1 := h.wait start
      have h2 := len_le (got_nodup h.R_nodup start) (h.got_sub N start)
      rw [e] at h1 h2
      simp at h2
      rw [h2] at h1
      exact hw (show (O.foldl (ES.move P) (ES.init P start)).wait start = 0 by rw [h1]; simp)
    obtain ⟨j, hj⟩ := List.exists_mem_of_ne_nil _ hne
    have ha := (N.mem start j).1 hj
    unfold own
    refine List.length_pos_iff.2 fun e => ?_
    rcases ha with ha | ha
    · have : (start, j) ∈ M.filter fun l => (jns M n (2 ^ start)).testBit l.1 := List.mem_filter.2 ⟨ha, hst⟩
      rw [e] at this; cases this
    · have : (j, start) ∈ M.filter fun l => (jns M n (2 ^ start)).testBit l.1 := List.mem_filter.2 ⟨ha, (hc _ ha (.inr hst)).1⟩
      rw [e] at this; cases this
  · obtain ⟨h1, h2⟩ := all_done N G h hc hst hm hw
    refine ⟨fun i hi hne => ?_, h2⟩
    rw [Bool.eq_iff_iff, h1 i, decide_eq_true_iff]
    constructor
    · intro hJ
      obtain ⟨p, _, hp, _⟩ := h.tree.parent hJ hne
      show 0 ≤ (O.foldl (ES.move P) (ES.init P start)).frm i
      omega
    · intro h0
      refine (h.heard i).2 ?_
      have : 0 ≤ (O.foldl (ES.move P) (ES.init P start)).frm i := h0
      omega

theorem bit_at (v i : Nat) (b : Bool) (w : World) (hv : v < 4294967296) (hi : i < 30) (hb : v.testBit i = b) :
    Calls Try.prog 15 #[.int .u32 v, .int .i64 i] w fun e w' => e = .returned (.bool b) ∧ w' = w := hb ▸ bit_any v i w hv hi

set_option maxHeartbeats 4000000 in
set_option maxRecDepth 100000 in
theorem echo_done (n start : Int) (ao oo : Option Addr) (len cap oc : Nat) (L : List (Int × Int)) (O : List Int) (w : World) (hl : L.length = len) (hcap : len ≤ cap) (hL : LinksAt w ao L) (hO : IntsAt w oo O) (hnil : oo = none → oc = 0) (hm : (O.length : Int) ≤ 9223372036854775807) :
    Calls Try.prog 5 #[.int .i64 n, .slice ao len cap, .int .i64 start, .slice oo O.length oc] w fun e w' => e = .returned (.bool true) ∧ Below w.heap.size w w' := by
  have HL := Lib.hid hL
  have HO := Lib.hid hO
  clear hL hO hnil
  by_cases hok : OkL n L start O.length
  · have HOK := Lib.hid hok
    obtain ⟨k, st, M, rfl, rfl, rfl, G, hst, hMl⟩ := okL_cast hok
    obtain rfl : len = M.length := by omega
    have hk6 : k ≤ 6 := by have := hok.n6; omega
    have hp := play_good k st ao oo cap oc M O w hcap HL.out HO.out HOK.out G
    have hj := fun W hW => joined_any k st ao cap M W hk6 hst (by have := hok.l15; omega) (fun l hl => ⟨(G.lt l hl).1, (G.lt l hl).2.1⟩) hW
    have HP := Lib.hid hp
    have HJ := Lib.hid hj
    have HG := Lib.hid G
    have h15 : M.length ≤ 15 := by have := hok.l15; omega
    have hlk0 := fun W hW => linked_any k st ao cap O.length (castL M) W (by omega) hW (by omega)
    rw [← hMl] at hlk0
    have HLD := Lib.hid hlk0
    have HML := Lib.hid hMl
    clear hok hp G hMl hl hlk0 hj
    go_enter Try.func5, Try.ntmps5
    go_wp2_with fail
    refine HP.out.mono ?_
    clear HP
    rintro e w3 ⟨P, ca, cc, fb, hP, rfl, hfb, hb3⟩
    have hE := ends HG.out hst hP O
    generalize play P st O = s at hE hfb ⊢
    have HE := Lib.hid hE
    have HFB := Lib.hid hfb
    have HB3 := Lib.hid hb3
    unfold sl
    clear hb3 hP hfb hE
    obtain ⟨snt, hsnt⟩ : ∃ x : Int, x = (s.sent : Nat) := ⟨_, rfl⟩
    obtain ⟨dn, hdn⟩ : ∃ x : Bool, x = (s.wait st == 0) := ⟨_, rfl⟩
    rw [← hsnt, ← hdn]
    have HSNT := Lib.hid hsnt
    have HDN := Lib.hid hdn
    clear hsnt hdn
    go_wp2_with fail
    refine (HLD.out _ (HL.out.later (HB3.out.alloc HB3.out.size _))).mono ?_
    clear HLD
    rintro e w4 ⟨⟨b, rfl, hbo⟩, hb4⟩
    obtain rfl : b = true := hbo.2 HOK.out
    have hlk := (Blk.new w3 [.slice ca O.length cc, .slice (some ⟨fb, 0, none⟩) k k, .bool dn, .int .i64 snt] 33).below hb4 (by simp)
    have z1 := hlk.cell (o := 1) rfl
    have HLK := Lib.hid hlk
    have HFB4 := Lib.hid ((HFB.out.alloc (.cells #[.slice ca O.length cc, .slice (some ⟨fb, 0, none⟩) k k, .bool dn, .int .i64 snt] 33)).below hb4 (by have := HFB.out.lt; simp; omega))
    have HB4 := Lib.hid ((HB3.out.alloc HB3.out.size (.cells #[.slice ca O.length cc, .slice (some ⟨fb, 0, none⟩) k k, .bool dn, .int .i64 snt] 33)).trans (hb4.mono (by have := HB3.out.size; simp; omega)))
    have HKK : Hid (((k : Int) != (k : Int)) = false) := Lib.hid (by simp)
    obtain ⟨eb, heb⟩ : ∃ eb, eb = w3.heap.size := ⟨_, rfl⟩
    rw [← heb] at z1 HLK ⊢
    have hebw : w.heap.size ≤ eb := by have := HB3.out.size; omega
    clear hbo hb4 hlk heb HB3 HFB
    clear w3
    have hj2 := HJ.out w4 (HL.out.later HB4.out)
    have HJ2 := Lib.hid hj2
    clear hj2 HJ
    go_wp2_with fail
    refine HJ2.out.mono ?_
    clear HJ2
    rintro e w5 ⟨rfl, hb5⟩
    have hv30 : Hid (jns M k (2 ^ st) < 4294967296) := Lib.hid (by
      have h1 := jns_lt M (fun l hl => ⟨(HG.out.lt l hl).1, (HG.out.lt l hl).2.1⟩) (2 ^ st) (Nat.pow_lt_pow_right (by omega) hst) k
      have h2 : 2 ^ k ≤ 2 ^ 6 := Nat.pow_le_pow_right (by omega) hk6
      omega)
    generalize jns M k (2 ^ st) = v at HE hv30 ⊢
    have HLK5 := Lib.hid (HLK.out.below hb5 HLK.out.lt)
    have HFB5 := Lib.hid (HFB4.out.below hb5 HFB4.out.lt)
    have HB5 := Lib.hid (HB4.out.trans (hb5.mono HB4.out.size))
    clear hb5 z1 HLK HFB4 HB4
    clear w4
    go_wp2
    go_loopw [12, 48] (fun o i wr => ∃ q : Nat, q ≤ M.length ∧ i = .int .i64 q ∧ o = .int .i64 (own (M.take q) v : Nat) ∧ Below w5.heap.size w5 wr) (fun _ i _ => M.length - (intOf i).toNat)
    case atStart => exact ⟨0, Nat.zero_le _, rfl, rfl, Below.refl _ _⟩
    case round =>
      obtain ⟨q, hq, rfl, rfl, hb⟩ := hrel
      have HB := Lib.hid hb
      have hws := hb.size
      have hol := own_le (M.take q) v
      rw [List.length_take] at hol
      clear hb
      by_cases hlt : q < M.length
      · obtain ⟨l, hlq⟩ : ∃ l, M[q]? = some l := ⟨M[q], List.getElem?_eq_getElem hlt⟩
        obtain ⟨a, b⟩ := l
        obtain ⟨han, hbn, _⟩ := HG.out.lt (a, b) (List.mem_of_getElem? hlq)
        simp only at han hbn
        obtain ⟨bb, off, rfl, hc⟩ := (HL.out.later (HB5.out.trans (HB.out.mono HB5.out.size))) (by intro e; rw [HML.out, e] at hlt; simp at hlt)
        obtain ⟨r0, r1⟩ := hc q _ (castL_get hlq)
        simp only at r0 r1
        have HT := Lib.hid (own_take M v q (a, b) hlq)
        clear hc hlq
        cases hta : v.testBit a with
        | true =>
          have HTA := Lib.hid hta
          go_wp2_with fail
          refine (bit_any v a _ hv30.out (by omega)).mono ?_
          rintro e w6 ⟨rfl, rfl⟩
          rw [hta]
          clear hta
          go_wp2
          go_roundw
          case rel => exact ⟨q + 1, by omega, by go_num, by rw [HT.out, if_pos HTA.out]; go_num, HB.out.alloc hws _⟩
          case measure => simp [intOf]; omega
        | false =>
          have HTA := Lib.hid hta
          go_wp2_with fail
          refine (bit_any v a _ hv30.out (by omega)).mono ?_
          rintro e w6 ⟨rfl, rfl⟩
          rw [hta]
          clear hta
          go_wp2
          go_roundw
          case rel => exact ⟨q + 1, by omega, by go_num, by rw [HT.out, if_neg (by rw [HTA.out]; simp)]; go_num, HB.out.alloc hws _⟩
          case measure => simp [intOf]; omega
      · obtain rfl : q = M.length := by omega
        rw [List.take_length] at hol ⊢
        have hbl := HLK5.out.below HB.out HLK5.out.lt
        have z1 := hbl.cell (o := 1) rfl
        have z2 := hbl.cell (o := 2) rfl
        have z3 := hbl.cell (o := 3) rfl
        have HLK6 := Lib.hid hbl
        have HFB6 := Lib.hid (HFB5.out.below HB.out HFB5.out.lt)
        have HB6 := Lib.hid (HB5.out.trans (HB.out.mono HB5.out.size))
        have hfew : snt ≤ 2 * ((own M v : Nat) : Int) := by have := HE.out.few; have := HSNT.out; omega
        have hs0 : 0 ≤ snt := by have := HSNT.out; omega
        generalize hoo : own M v = ow at hfew hol ⊢
        have HOO := Lib.hid hoo
        clear hbl hoo HLK5 HFB5 HB5 HB hlt hq
        cases dn with
        | false =>
          have hpos : (0 : Int) < ow := by
            have := HE.out.more (fun e => by have := HDN.out; rw [e] at this; simp at this)
            have := HOO.out
            omega
          have hposN : 0 < ow := by omega
          have HPN := Lib.hid hposN
          clear hposN
          go_wp2
          go_ret
          exact ⟨by first | rfl | trivial | exact congrArg (fun b => Ending.returned (.bool b)) (decide_eq_true HPN.out), HB6.out⟩
        | true =>
          obtain ⟨hall, hsum⟩ := HE.out.all (by have := HDN.out; simpa using this.symm)
          have HALL := Lib.hid hall
          have hsum2 : Hid (snt = 2 * (ow : Int)) := Lib.hid (by have := HSNT.out; have := HOO.out; omega)
          clear hall hsum
          go_wp2
          obtain ⟨wi, hwi⟩ : ∃ wi : World, wi = wr := ⟨_, rfl⟩
          subst hwi
          go_loopw [15] (fun i wr => ∃ q : Nat, q ≤ k ∧ i = .int .i64 q ∧ Below wi.heap.size wi wr) (fun i _ => k - (intOf i).toNat)
          case atStart => exact ⟨0, Nat.zero_le _, rfl, Below.refl _ _⟩
          case round =>
            clear z1 z2 z3
            obtain ⟨q, hq, rfl, hb⟩ := hrel
            have HB := Lib.hid hb
            have hlk7 := HLK6.out.below hb HLK6.out.lt
            have z1 := hlk7.cell (o := 1) rfl
            have z3 := hlk7.cell (o := 3) rfl
            by_cases hlt : q < k
            · have hf := (HFB6.out.below hb HFB6.out.lt).cell (rowOf_get (g := intsF (upI s.frm st (-1))) hlt)
              unfold intsF at hf
              clear hb hlk7 z3
              by_cases hqs : q = st
              · have hne : ((q : Int) != (st : Int)) = false := by simp; omega
                clear hf hqs
                go_wp2_with fail
                go_quiet (fail)
                go_wp2
                go_roundw
                case rel => exact ⟨q + 1, by omega, by go_num, ⟨HB.out.os, HB.out.tape, HB.out.output, HB.out.size, HB.out.block⟩⟩
                case measure => simp [intOf]; omega
              · have hne : ((q : Int) != (st : Int)) = true := by simp; omega
                rw [upI_ne hqs] at hf
                have hbt := HALL.out q hlt hqs
                by_cases h0 : 0 ≤ s.frm q
                · have hb1 : v.testBit q = true := by rw [hbt]; simpa using h0
                  have HBT := Lib.hid (fun W => bit_at v q true W hv30.out (by omega) hb1)
                  clear hbt hb1 hqs
                  go_wp2_with fail
                  go_quiet ((go_at_call 15; exact Calls.quiet_of_same (HBT.out _)))
                  go_wp2
                  go_roundw
                  case rel => exact ⟨q + 1, by omega, by go_num, ⟨HB.out.os, HB.out.tape, HB.out.output, HB.out.size, HB.out.block⟩⟩
                  case measure => simp [intOf]; omega
                · have h1 : s.frm q < 0 := by omega
                  have hb1 : v.testBit q = false := by rw [hbt]; simpa using h0
                  have HBT := Lib.hid (fun W => bit_at v q false W hv30.out (by omega) hb1)
                  clear hbt hb1 hqs h0
                  go_wp2_with fail
                  go_quiet ((go_at_call 15; exact Calls.quiet_of_same (HBT.out _)))
                  go_wp2
                  go_roundw
                  case rel => exact ⟨q + 1, by omega, by go_num, ⟨HB.out.os, HB.out.tape, HB.out.output, HB.out.size, HB.out.block⟩⟩
                  case measure => simp [intOf]; omega
            · have hsum3 : snt = 2 * (ow : Int) := hsum2.out
              have hbq : (snt == 2 * (ow : Int)) = true := by simpa using hsum3
              clear hsum3 hb hlk7 z1
              go_wp2
              go_ret
              exact ⟨by first | rfl | trivial | exact congrArg (fun b => Ending.returned (.bool b)) hbq, HB6.out.trans (HB.out.mono HB6.out.size)⟩
  · subst hl
    have HNO := Lib.hid hok
    clear hok
    go_enter Try.func5, Try.ntmps5
    go_wp2_with fail
    refine (play_bad n start ao oo cap oc O.length L _ hcap HL.out (by omega) HNO.out).mono ?_
    rintro e w3 ⟨⟨r, rfl, hr⟩, hb3⟩
    unfold echo0
    have HB3 := Lib.hid hb3
    clear hb3
    go_wp2_with fail
    refine (linked_any n start ao cap O.length L _ hcap (HL.out.later (HB3.out.alloc HB3.out.size _)) (by omega)).mono ?_
    rintro e w4 ⟨⟨b, rfl, hbo⟩, hb4⟩
    obtain rfl : b = false := by
      cases b with
      | false => rfl
      | true => exact absurd (hbo.1 rfl) HNO.out
    have HB4 := Lib.hid ((HB3.out.alloc HB3.out.size (.cells #[.slice none 0 0, .slice none 0 0, .bool false, .int .i64 0] 33)).trans (hb4.mono (by have := HB3.out.size; simp; omega)))
    have HR : Hid ((r != 0) = true) := Lib.hid (by simpa using hr)
    clear hbo hb4
    go_wp2
    go_ret
    exact ⟨congrArg (fun b => Ending.returned (.bool b)) HR.out, HB4.out⟩
end Go.Proofs.Ytaodgbeobdholaa.Ec
