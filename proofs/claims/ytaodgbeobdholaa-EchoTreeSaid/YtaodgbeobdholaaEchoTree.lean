/-
  The walk through EchoTree.
-/
import Derived.Test.YtaodgbeobdholaaEchoAll
namespace Go.Proofs.Ytaodgbeobdholaa.Ec
open Go Go.RowKit Mem

/-- what the plain law says of the parents -/
def Par (n start : Nat) (M : List (Nat × Nat)) (F : Nat → Int) : Prop := F start = -1 ∧ ∀ i, i < n → F i = -1 ∨ ∃ p : Nat, p < n ∧ F i = p ∧ Adj M i p ∧ chase F start n n i = true
theorem par {n start : Nat} {M : List (Nat × Nat)} {P : Nat → List Nat} (G : Good n M) (hs : start < n) (hP : ∀ i, (P i).Perm (nearOf M i)) (O : List Int) : Par n start M (upI (play P start O).frm start (-1)) := by
  have N := net G hP
  obtain ⟨J, R, h⟩ := (Inv.init N start).moves N O
  refine ⟨upI_same _ _ _, fun i hi => ?_⟩
  by_cases e : i = start
  · subst e; exact .inl (upI_same _ _ _)
  · by_cases hf : (play P start O).frm i = -1
    · left; rw [upI_ne e]; exact hf
    · obtain ⟨p, h1, h2, h3, h4⟩ := tree_ok G hs h e hf
      exact .inr ⟨p, h1, by rw [upI_ne e]; exact h2, h3, h4⟩
/-- is there a link of i and p among these? -/
def isL (M : List (Nat × Nat)) (i p : Nat) : Bool := M.any fun l => decide (l.1 = i) && decide (l.2 = p) || decide (l.2 = i) && decide (l.1 = p)
theorem isL_take (M : List (Nat × Nat)) (i p k a b : Nat) (h : M[k]? = some (a, b)) : isL (M.take (k + 1)) i p = (isL (M.take k) i p || (decide (a = i) && decide (b = p) || decide (b = i) && decide (a = p))) := by
  have e : M.take (k + 1) = M.take k ++ [(a, b)] := by rw [List.take_add_one, h]; rfl
  rw [e]
  unfold isL
  simp
theorem isL_adj {M : List (Nat × Nat)} {i p : Nat} (h : Adj M i p) : isL M i p = true := by
  unfold isL
  rw [List.any_eq_true]
  rcases h with h | h
  · exact ⟨_, h, by simp⟩
  · exact ⟨_, h, by simp⟩

set_option maxHeartbeats 8000000 in
set_option maxRecDepth 100000 in
theorem echo_tree (n start : Int) (ao oo : Option Addr) (len cap oc : Nat) (L : List (Int × Int)) (O : List Int) (w : World) (hl : L.length = len) (hcap : len ≤ cap) (hL : LinksAt w ao L) (hO : IntsAt w oo O) (hnil : oo = none → oc = 0) (hm : (O.length : Int) ≤ 9223372036854775807) :
    Calls Try.prog 4 #[.int .i64 n, .slice ao len cap, .int .i64 start, .slice oo O.length oc] w fun e w' => e = .returned (.bool true) ∧ Below w.heap.size w w' := by
  have HL := Lib.hid hL
  have HO := Lib.hid hO
  clear hL hO hnil
  by_cases hok : OkL n L start O.length
  · have HOK := Lib.hid hok
    obtain ⟨k, st, M, rfl, rfl, rfl, G, hst, hMl⟩ := okL_cast hok
    obtain rfl : len = M.length := by omega
    have hk6 : k ≤ 6 := by have := hok.n6; omega
    have hp := play_good k st ao oo cap oc M O w hcap HL.out HO.out HOK.out G
    have HP := Lib.hid hp
    have HG := Lib.hid G
    have h15 : M.length ≤ 15 := by have := hok.l15; omega
    have hlk0 := fun W hW => linked_any k st ao cap O.length (castL M) W (by omega) hW (by omega)
    rw [← hMl] at hlk0
    have HLD := Lib.hid hlk0
    have HML := Lib.hid hMl
    clear hok hp G hMl hl hlk0
    go_enter Try.func4, Try.ntmps4
    go_wp2_with fail
    refine HP.out.mono ?_
    clear HP
    rintro e w3 ⟨P, ca, cc, fb, hP, rfl, hfb, hb3⟩
    have hE := par HG.out hst hP O
    generalize upI (play P st O).frm st (-1) = F at hE hfb
    have HE := Lib.hid hE
    have HFB := Lib.hid hfb
    have HB3 := Lib.hid hb3
    unfold sl
    clear hb3 hP hfb hE
    generalize ((play P st O).sent : Int) = snt
    generalize ((play P st O).wait st == 0) = dn
    go_wp2_with fail
    refine (HLD.out _ (HL.out.later (HB3.out.alloc HB3.out.size _))).mono ?_
    clear HLD
    rintro e w4 ⟨⟨b, rfl, hbo⟩, hb4⟩
    obtain rfl : b = true := hbo.2 HOK.out
    have hlk := (Blk.new w3 [.slice ca O.length cc, .slice (some ⟨fb, 0, none⟩) k k, .bool dn, .int .i64 snt] 33).below hb4 (by simp)
    have z0 := hlk.cell (o := 0) rfl
    have z1 := hlk.cell (o := 1) rfl
    have HLK := Lib.hid hlk
    have hfb4 := (HFB.out.alloc (.cells #[.slice ca O.length cc, .slice (some ⟨fb, 0, none⟩) k k, .bool dn, .int .i64 snt] 33)).below hb4 (by have := HFB.out.lt; simp; omega)
    have zf := hfb4.cell (rowOf_get (g := intsF F) hst)
    unfold intsF at zf
    rw [HE.out.1] at zf
    have HFB4 := Lib.hid hfb4
    have HB4 := Lib.hid ((HB3.out.alloc HB3.out.size (.cells #[.slice ca O.length cc, .slice (some ⟨fb, 0, none⟩) k k, .bool dn, .int .i64 snt] 33)).trans (hb4.mono (by have := HB3.out.size; simp; omega)))
    obtain ⟨eb, heb⟩ : ∃ eb, eb = w3.heap.size := ⟨_, rfl⟩
    rw [← heb] at z0 z1 HLK ⊢
    clear hbo hb4 hlk heb HB3 HFB hfb4
    clear w3
    go_wp2
    go_loopw [63] (fun i wr => ∃ q : Nat, q ≤ k ∧ i = .int .i64 q ∧ Below w4.heap.size w4 wr) (fun i _ => k - (intOf i).toNat)
    case atStart => exact ⟨0, Nat.zero_le _, rfl, Below.refl _ _⟩
    case round =>
      clear z0 z1 zf
      obtain ⟨q, hq, rfl, hb⟩ := hrel
      have HB := Lib.hid hb
      have hws := hb.size
      have hfb5 := HFB4.out.below hb HFB4.out.lt
      have HFB5 := Lib.hid hfb5
      by_cases hlt : q < k
      · have zq := hfb5.cell (rowOf_get (g := intsF F) hlt)
        unfold intsF at zq
        clear hb hfb5
        rcases HE.out.2 q hlt with hF | ⟨p, hpk, hF, hadj, hch⟩
        · rw [hF] at zq
          clear hF
          go_wp2
          go_roundw
          case rel => exact ⟨q + 1, by omega, by go_num, HB.out⟩
          case measure => simp [intOf]; omega
        · rw [hF] at zq
          have hp1 : ((p : Int) == -1) = false := by first | (simp; done) | (simp; omega)
          have HADJ := Lib.hid (isL_adj hadj)
          have HCH := Lib.hid hch
          clear hF hadj hch
          go_wp2_with fail
          refine (inside_one k p wr.heap.size _ ((Blk.new wr [_] 3).cell rfl)).mono ?_
          rintro e w6 ⟨rfl, rfl⟩
          have hd : decide (0 ≤ (p : Int) ∧ (p : Int) < (k : Int)) = true := by simp; omega
          rw [hd]
          clear hd hp1 zq
          go_wp2
          obtain ⟨wi, hwi⟩ : ∃ wi : World, wi = wr.alloc (.cells #[.int .i64 p] 3) := ⟨_, rfl⟩
          rw [← hwi]
          have HBI : Hid (Below w4.heap.size w4 wi) := Lib.hid (hwi ▸ HB.out.alloc hws _)
          clear hwi HB HFB5 hws
          generalize wr.heap.size = ib
          clear wr
          go_loopw [13, 77] (fun c j wr => ∃ jj : Nat, jj ≤ M.length ∧ j = .int .i64 jj ∧ c = .bool (isL (M.take jj) q p) ∧ Below w4.heap.size w4 wr) (fun _ j _ => M.length - (intOf j).toNat)
          case atStart => exact ⟨0, Nat.zero_le _, rfl, rfl, HBI.out⟩
          case round =>
            clear HBI
            clear wi
            obtain ⟨jj, hjj, rfl, rfl, hb⟩ := hrel
            have HB := Lib.hid hb
            have hws := hb.size
            clear hb
            by_cases hjl : jj < M.length
            · obtain ⟨l, hlj⟩ : ∃ l, M[jj]? = some l := ⟨M[jj], List.getElem?_eq_getElem hjl⟩
              obtain ⟨a, b⟩ := l
              obtain ⟨bb, off, rfl, hc⟩ := (HL.out.later (HB4.out.trans (HB.out.mono HB4.out.size))) (by intro e; rw [HML.out, e] at hjl; simp at hjl)
              obtain ⟨r0, r1⟩ := hc jj _ (castL_get hlj)
              simp only at r0 r1
              have HT := Lib.hid (isL_take M q p jj a b hlj)
              clear hc hlj
              generalize isL (M.take jj) q p = c0 at HT ⊢
              obtain ⟨b1, hb1⟩ : ∃ b1, ((a : Int) == (q : Int)) = b1 := ⟨_, rfl⟩
              obtain ⟨b2, hb2⟩ : ∃ b2, ((b : Int) == (p : Int)) = b2 := ⟨_, rfl⟩
              obtain ⟨b3, hb3⟩ : ∃ b3, ((b : Int) == (q : Int)) = b3 := ⟨_, rfl⟩
              obtain ⟨b4, hb4⟩ : ∃ b4, ((a : Int) == (p : Int)) = b4 := ⟨_, rfl⟩
              have HD : Hid (isL (M.take (jj + 1)) q p = (c0 || (b1 && b2 || b3 && b4))) := Lib.hid (by
                rw [HT.out, ← hb1, ← hb2, ← hb3, ← hb4]
                have e : ∀ x y : Nat, decide (x = y) = ((x : Int) == (y : Int)) := fun x y => by
                  rw [Bool.eq_iff_iff, decide_eq_true_iff, beq_iff_eq]; omega
                rw [e, e, e, e])
              clear HT
              cases c0 <;> cases b1 <;> cases b2 <;> cases b3 <;> cases b4
              all_goals
                go_wp2
                go_roundw
                case rel => exact ⟨jj + 1, by omega, by go_num, by rw [HD.out]; rfl, HB.out.alloc hws _⟩
                case measure => simp [intOf]; omega
            · obtain rfl : jj = M.length := by omega
              rw [List.take_length, HADJ.out]
              clear HADJ
              go_wp2
              obtain ⟨wi, hwi⟩ : ∃ wi : World, wi = wr := ⟨_, rfl⟩
              subst hwi
              go_loopw [16, 17] (fun kk m wr => ∃ (x y : Nat), x < k ∧ y ≤ k ∧ kk = .int .i64 x ∧ m = .int .i64 y ∧ chase F st k (k - y) x = true ∧ Below w4.heap.size w4 wr) (fun _ m _ => k - (intOf m).toNat)
              case atStart => exact ⟨q, 0, hlt, Nat.zero_le _, rfl, rfl, HCH.out, HB.out⟩
              case round =>
                clear HB hws HCH
                clear wi
                obtain ⟨x, y, hx, hy, rfl, rfl, hch, hb⟩ := hrel
                have HB := Lib.hid hb
                have hws := hb.size
                have hlk5 := HLK.out.below hb HLK.out.lt
                have z1 := hlk5.cell (o := 1) rfl
                have zx := (HFB4.out.below hb HFB4.out.lt).cell (rowOf_get (g := intsF F) hx)
                unfold intsF at zx
                clear hb hlk5
                by_cases hyk : y < k
                · by_cases hxs : x = st
                  · subst hxs
                    have hne : ((x : Int) != (x : Int)) = false := by simp
                    clear hch
                    go_wp2
                    go_roundw
                    case rel => exact ⟨q + 1, by omega, by go_num, HB.out⟩
                    case measure => simp [intOf]; omega
                  · have hne : ((x : Int) != (st : Int)) = true := by simp; omega
                    obtain ⟨m, hm2⟩ : ∃ m, k - y = m + 1 := ⟨k - y - 1, by omega⟩
                    rw [hm2, chase, if_neg hxs] at hch
                    simp only [Bool.and_eq_true, decide_eq_true_eq] at hch
                    obtain ⟨⟨c1, c2⟩, c3⟩ := hch
                    obtain ⟨z, hz⟩ : ∃ z : Nat, F x = z := ⟨(F x).toNat, by omega⟩
                    rw [hz] at zx c1 c2 c3
                    rw [show (z : Int).toNat = z by omega, show m = k - (y + 1) by omega] at c3
                    have HC3 := Lib.hid c3
                    clear c3 hz hm2 hxs
                    go_wp2_with fail
                    refine (inside_one k z wr.heap.size _ ((Blk.new wr [_] 3).cell rfl)).mono ?_
                    rintro e w6 ⟨rfl, rfl⟩
                    have hd : decide (0 ≤ (z : Int) ∧ (z : Int) < (k : Int)) = true := by simp; omega
                    rw [hd]
                    clear hd
                    go_wp2
                    go_roundw
                    case rel => exact ⟨z, y + 1, by omega, by omega, by first | rfl | trivial, by go_num, HC3.out, HB.out.alloc hws _⟩
                    case measure => simp [intOf]; omega
                · obtain rfl : y = k := by omega
                  rw [Nat.sub_self] at hch
                  have hxs : x = st := by simpa [chase] using hch
                  subst hxs
                  have hne : ((x : Int) != (x : Int)) = false := by simp
                  clear hch
                  go_wp2
                  go_roundw
                  case rel => exact ⟨q + 1, by omega, by go_num, HB.out⟩
                  case measure => simp [intOf]; omega
      · clear hb hfb5
        go_wp2
        go_ret
        exact ⟨by first | rfl | trivial, HB4.out.trans (HB.out.mono HB4.out.size)⟩
  · subst hl
    have HNO := Lib.hid hok
    clear hok
    go_enter Try.func4, Try.ntmps4
    go_wp2_with fail
    refine (play_bad n start ao oo cap oc O.length L _ hcap HL.out (by omega) HNO.out).mono ?_
    rintro e w3 ⟨⟨r, rfl, hr⟩, hb3⟩
    unfold echo0
    have HB3 := Lib.hid hb3
    clear hb3
    go_wp2_with fail
    refine (linked_any n start ao cap O.length L _ hcap (HL.out.later (HB3.out.alloc HB3.out.size _)) (by omega)).mono ?_
    rintro e w4 ⟨⟨b, rfl, hbo⟩, hb4⟩
    obtain rfl : b = false := by
      cases b with
      | false => rfl
      | true => exact absurd (hbo.1 rfl) HNO.out
    have HB4 := Lib.hid ((HB3.out.alloc HB3.out.size (.cells #[.slice none 0 0, .slice none 0 0, .bool false, .int .i64 0] 33)).trans (hb4.mono (by have := HB3.out.size; simp; omega)))
    have HR : Hid ((r != 0) = true) := Lib.hid (by simpa using hr)
    clear hbo hb4
    go_wp2
    go_ret
    exact ⟨congrArg (fun b => Ending.returned (.bool b)) HR.out, HB4.out⟩
end Go.Proofs.Ytaodgbeobdholaa.Ec
