/-
  The walk through echo's take.
-/
import Derived.Test.YtaodgbeobdholaaEchoSend
import Derived.Test.YtaodgbeobdholaaCells
namespace Go.Proofs.Ytaodgbeobdholaa.Ec
open Go Go.RowKit Mem

def intsF (f : Nat → Int) : Nat → Value := fun i => .int .i64 (f i)
theorem intsF_set (n : Nat) (f : Nat → Int) (i : Nat) (v : Int) : (rowOf n (intsF f)).set i (.int .i64 v) = rowOf n (intsF (upI f i v)) := by
  rw [rowOf_set]
  refine rowOf_congr fun j _ => ?_
  unfold intsF upI
  split <;> rfl
/-- who is joined with whom -/
def NearAt (w : World) (nb n base : Nat) (X : List Nat) (near : Nat → List Nat) : Prop :=
  ∃ V : Nat → Option Addr × Nat, Blk w nb (rowOf n fun i => .slice (V i).1 (near i).length (V i).2) 23 ∧
    ∀ i, i < n → near i ≠ [] → ∃ (b : Nat) (l : List Value), (V i).1 = some ⟨b, 0, none⟩ ∧ b < base ∧ b ∉ X ∧ Blk w b l 3 ∧ ∀ k j : Nat, (near i)[k]? = some j → l[k]? = some (.int .i64 ((j : Nat) : Int))
theorem NearAt.later {w w' : World} {nb n base : Nat} {X : List Nat} {near : Nat → List Nat} (h : NearAt w nb n base X near) (k : BelowX base X w w') (hn : nb < base) (hx : nb ∉ X) : NearAt w' nb n base X near := by
  obtain ⟨V, h1, h2⟩ := h
  refine ⟨V, h1.belowX k hn hx, fun i hi hne => ?_⟩
  obtain ⟨b, l, e, hb, hbx, hbk, hc⟩ := h2 i hi hne
  exact ⟨b, l, e, hb, hbx, hbk.belowX k hb hbx, hc⟩
theorem NearAt.keep {w w' : World} {nb n base : Nat} {X : List Nat} {near : Nat → List Nat} (h : NearAt w nb n base X near) (hk : ∀ b l T, (24 : TypeId) ≠ T → Blk w b l T → Blk w' b l T) : NearAt w' nb n base X near := by
  obtain ⟨V, h1, h2⟩ := h
  refine ⟨V, hk _ _ _ (by decide) h1, fun i hi hne => ?_⟩
  obtain ⟨b, l, e, hb, hbx, hbk, hc⟩ := h2 i hi hne
  exact ⟨b, l, e, hb, hbx, hk _ _ _ (by decide) hbk, hc⟩
structure Places (p nb wb fb base : Nat) : Prop where
  lp : p < base
  lnb : nb < base
  lwb : wb < base
  lfb : fb < base
  d1 : nb ≠ p
  d2 : wb ≠ p
  d3 : fb ≠ p
  d4 : nb ≠ wb
  d5 : nb ≠ fb
  d6 : wb ≠ fb
def sl (b n : Nat) : Value := .slice (some ⟨b, 0, none⟩) n n
structure Wave (w : World) (p nb wb fb n base : Nat) (near : Nat → List Nat) (s : ES) : Prop where
  head : Head w p base (sl nb n) (sl wb n) (sl fb n) s.way s.sent
  wait : Blk w wb (rowOf n (intsF s.wait)) 3
  frm : Blk w fb (rowOf n (intsF s.frm)) 3
  near : NearAt w nb n base [p, wb, fb] near
theorem Wave.sent {w w' : World} {p nb wb fb n base : Nat} {near : Nat → List Nat} {s : ES} (h : Wave w p nb wb fb n base near s) (hp : Places p nb wb fb base) (k : BelowX base [p] w w') {W : List (Nat × Nat)} {q : Nat} (hH : Head w' p base (sl nb n) (sl wb n) (sl fb n) W q) :
    Wave w' p nb wb fb n base near { s with way := W, sent := q } :=
  ⟨hH, h.wait.belowX k hp.lwb (by simp; exact hp.d2), h.frm.belowX k hp.lfb (by simp; exact hp.d3), h.near.later (k.mono (Nat.le_refl _) (by simp)) hp.lnb (by simp; exact ⟨hp.d1, hp.d4, hp.d5⟩)⟩
theorem Head.store {w : World} {p base : Nat} {nv wv fv : Value} {W : List (Nat × Nat)} {q : Int} (h : Head w p base nv wv fv W q) {b o : Nat} (v : Value) (hb : b < base) (hne : b ≠ p) : Head (w.setCell ⟨b, o, none⟩ v) p base nv wv fv W q := by
  obtain ⟨⟨x, h1, h2⟩, h3, h4⟩ := h
  refine ⟨⟨x, h1.set_ne _ _ (by simp; exact Ne.symm hne), ownsRow_set_ne h2 _ _ fun e => ?_⟩, by simpa [World.setCell] using h3, h4⟩
  have := (h2.lt _ e).1
  simp at this
  omega
theorem Wave.store_wait {w : World} {p nb wb fb n base : Nat} {near : Nat → List Nat} {s : ES} (h : Wave w p nb wb fb n base near s) (hp : Places p nb wb fb base) (t : Nat) (x : Int) :
    Wave (w.setCell ⟨wb, t, none⟩ (.int .i64 x)) p nb wb fb n base near { s with wait := upI s.wait t x } :=
  ⟨h.head.store _ hp.lwb hp.d2, by have := h.wait.set t (.int .i64 x); rw [intsF_set] at this; exact this, h.frm.set_ne _ _ (by simp; exact Ne.symm hp.d6), h.near.later ((BelowX.refl _ _ w).setCell (.inr (by simp)) _) hp.lnb (by simp; exact ⟨hp.d1, hp.d4, hp.d5⟩)⟩
theorem Wave.store_frm {w : World} {p nb wb fb n base : Nat} {near : Nat → List Nat} {s : ES} (h : Wave w p nb wb fb n base near s) (hp : Places p nb wb fb base) (t : Nat) (x : Int) :
    Wave (w.setCell ⟨fb, t, none⟩ (.int .i64 x)) p nb wb fb n base near { s with frm := upI s.frm t x } :=
  ⟨h.head.store _ hp.lfb hp.d3, h.wait.set_ne _ _ (by simp; exact hp.d6), by have := h.frm.set t (.int .i64 x); rw [intsF_set] at this; exact this, h.near.later ((BelowX.refl _ _ w).setCell (.inr (by simp)) _) hp.lnb (by simp; exact ⟨hp.d1, hp.d4, hp.d5⟩)⟩

/-- what stands in the head, for the walk -/
theorem Wave.cells {w : World} {p nb wb fb n base : Nat} {near : Nat → List Nat} {s : ES} (h : Wave w p nb wb fb n base near s) :
    w.cell? ⟨p, 0, none⟩ = some (sl nb n) ∧ w.cell? ⟨p, 2, none⟩ = some (sl wb n) ∧ w.cell? ⟨p, 3, none⟩ = some (sl fb n) ∧ w.cell? ⟨p, 4, none⟩ = some (.int .i64 s.sent) := by
  obtain ⟨⟨x, h1, h2⟩, h3, h4⟩ := h.head
  exact ⟨h1.cell rfl, h1.cell rfl, h1.cell rfl, h1.cell rfl⟩

theorem Wave.keep {w w' : World} {p nb wb fb n base : Nat} {near : Nat → List Nat} {s : ES} (h : Wave w p nb wb fb n base near s) (hk : ∀ b l T, (24 : TypeId) ≠ T → Blk w b l T → Blk w' b l T) (hs : w.heap.size ≤ w'.heap.size) : Wave w' p nb wb fb n base near s := by
  obtain ⟨⟨⟨v, h1, h2⟩, h3, h4⟩, h5, h6, h7⟩ := h
  refine ⟨⟨⟨v, hk _ _ _ (by decide) h1, ownsRow_of_block h2 fun g hg => ?_⟩, by omega, h4⟩, hk _ _ _ (by decide) h5, hk _ _ _ (by decide) h6, h7.keep hk⟩
  rcases h2.2 with ⟨e, _⟩ | ⟨g', cap, cur, e, _, hg', _⟩
  · rw [e] at hg; cases hg
  · rw [e] at hg
    have : g' = g := by simpa [Value.ownBlock] using hg
    subst this
    have h9 : Blk w g' cur.toList 38 := by unfold Blk; simpa using hg'
    exact (hk _ _ _ (by decide) h9).trans h9.symm
def msgs (t f : Nat) (l : List Nat) : List (Nat × Nat) := (l.filter fun j => decide (j ≠ f)).map fun j => (t, j)
theorem msgs_take (t f : Nat) (l : List Nat) (k j : Nat) (h : l[k]? = some j) : msgs t f (l.take (k + 1)) = msgs t f (l.take k) ++ if j = f then [] else [(t, j)] := by
  have : l.take (k + 1) = l.take k ++ [j] := by rw [List.take_add_one, h]; rfl
  rw [this]
  unfold msgs
  by_cases e : j = f <;> simp [e]
theorem msgs_len (t f : Nat) (l : List Nat) : (msgs t f l).length ≤ l.length := by
  unfold msgs; rw [List.length_map]; exact List.length_filter_le _ _

set_option maxHeartbeats 4000000 in
set_option maxRecDepth 100000 in
theorem take_any (w : World) (p nb wb fb n base : Nat) (near : Nat → List Nat) (s : ES) (f t : Nat) (hp : Places p nb wb fb base) (hw : Wave w p nb wb fb n base near s) (ht : t < n)
    (b1 : 1 ≤ s.wait t) (b2 : s.wait t ≤ 100) (b3 : -2 ≤ s.frm t) (b4 : s.frm t ≤ 100) (b5 : s.way.length ≤ 900) (b6 : s.sent ≤ 900) (b7 : (near t).length ≤ 20) :
    Calls Try.prog 31 #[.pointer (some ⟨p, 0, none⟩), .int .i64 f, .int .i64 t] w fun e w' => e = .returned (.tuple #[]) ∧ Wave w' p nb wb fb n base near (ES.take near s f t) ∧ BelowX base [p, wb, fb] w w' ∧ Far [p, wb, fb] w w' := by
  obtain ⟨c0, c2, c3, c4⟩ := hw.cells
  have z3 := hw.frm.cell (rowOf_get (g := intsF s.frm) ht)
  have z2 := hw.wait.cell (rowOf_get (g := intsF s.wait) ht)
  have f3 := hw.frm.frozen
  have f2 := hw.wait.frozen
  have hfl := hw.frm.lt
  have d2 := hp.d2
  have d3 := hp.d3
  have d6 := hp.d6
  have d2' := Ne.symm d2
  have d3' := Ne.symm d3
  have d6' := Ne.symm d6
  have HW := Lib.hid hw
  have HP := Lib.hid hp
  have HX : Hid (BelowX base [p, wb, fb] w w ∧ Far [p, wb, fb] w w) := Lib.hid ⟨BelowX.refl base [p, wb, fb] w, Far.refl _ _⟩
  unfold sl at c0 c2 c3
  unfold intsF at z2 z3
  clear hw hp
  by_cases hj : s.frm t = -1
  · have HJ := Lib.hid hj
    rw [hj] at z3
    clear hj
    have d1 := HP.out.d1
    have d5 := HP.out.d5
    have d1' := Ne.symm d1
    have d5' := Ne.symm d5
    obtain ⟨V, hV, hVc⟩ := HW.out.near
    have z0 := hV.cell (rowOf_get (g := fun i => .slice (V i).1 (near i).length (V i).2) ht)
    have HVC := Lib.hid (hVc t ht)
    clear hV hVc
    generalize (V t).1 = va at z0 HVC
    generalize (V t).2 = vc at z0
    have HH0 : Hid (ES.take near s f t = ((s.hear near f t).less t).answer t) := Lib.hid rfl
    have HS : Hid (s.hear near f t = { s with frm := upI s.frm t f, way := s.way ++ msgs t f (near t), sent := s.sent + (msgs t f (near t)).length }) := Lib.hid (by
      unfold ES.hear ES.sends
      rw [if_pos HJ.out]
      rfl)
    go_enter Try.func31, Try.ntmps31
    go_wp2
    refine gen_world (P := Code.wp Try.prog _ _ _) (Q := fun W => Wave W p nb wb fb n base near { s with frm := upI s.frm t f } ∧ BelowX base [p, wb, fb] w W ∧ Far [p, wb, fb] w W) _ ⟨HW.out.store_frm HP.out t f, HX.out.1.setCell (.inr (by simp)) _, HX.out.2.setCell (by simp) _⟩ ?_
    intro w1 hI
    have HI := Lib.hid hI
    clear hI c0 c2 c3 z0 z2 z3 f2 f3 hfl
    go_loopw [31] (fun i wr => ∃ k : Nat, k ≤ (near t).length ∧ i = .int .i64 k ∧ Wave wr p nb wb fb n base near { s with frm := upI s.frm t f, way := s.way ++ msgs t f ((near t).take k), sent := s.sent + (msgs t f ((near t).take k)).length } ∧ BelowX base [p, wb, fb] w wr ∧ Far [p, wb, fb] w wr) (fun i _ => (near t).length - (intOf i).toNat)
    case atStart => exact ⟨0, Nat.zero_le _, rfl, by simpa [msgs] using HI.out.1, HI.out.2⟩
    case round =>
      clear HI
      obtain ⟨k, hk, rfl, hwr, hxr⟩ := hrel
      have HWR := Lib.hid hwr
      have HXR := Lib.hid hxr
      clear hwr hxr
      have hml := msgs_len t f ((near t).take k)
      rw [List.length_take] at hml
      by_cases hlt : k < (near t).length
      · obtain ⟨j, hjk⟩ : ∃ j, (near t)[k]? = some j := ⟨(near t)[k], List.getElem?_eq_getElem hlt⟩
        obtain ⟨b, lb, rfl, hbb, hbx, hbk, hc⟩ := HVC.out (by intro e; rw [e] at hlt; simp at hlt)
        have r0 := (HXR.out.1.cell hbb hbx).trans (hbk.cell (hc k j hjk))
        have HT := Lib.hid (msgs_take t f (near t) k j hjk)
        clear hc hjk hbk
        by_cases hjf : j = f
        · have hjf2 : ((j : Int) == (f : Int)) = true := by simp; omega
          have hjf3 : ((j : Int) != (f : Int)) = false := by simp; omega
          have HF := Lib.hid hjf
          clear hjf
          go_wp2
          go_roundw
          case rel =>
            refine ⟨k + 1, by omega, by go_num, ?_, HXR.out⟩
            rw [HT.out, if_pos HF.out]
            simpa using HWR.out
          case measure => simp [intOf]; omega
        · have hjf2 : ((j : Int) == (f : Int)) = false := by simp; omega
          have hjf3 : ((j : Int) != (f : Int)) = true := by simp; omega
          have HF := Lib.hid hjf
          clear hjf
          go_wp2_with fail
          refine (send_any _ p base (sl nb n) (sl wb n) (sl fb n) (s.way ++ msgs t f ((near t).take k)) ((s.sent + (msgs t f ((near t).take k)).length : Nat) : Int) t j HWR.out.head (by simp; omega) (by omega) (by omega)).mono ?_
          rintro e w9 ⟨rfl, hh9, hx9, hf9⟩
          have HH9 := Lib.hid hh9
          have HX9 := Lib.hid hx9
          have HF9 := Lib.hid hf9
          clear hh9 hx9 hf9
          go_wp2
          go_roundw
          case rel =>
            refine ⟨k + 1, by omega, by go_num, ?_, HXR.out.1.trans (HX9.out.mono (Nat.le_refl _) (by simp)), HXR.out.2.trans (HF9.out.mono (by simp))⟩
            rw [HT.out, if_neg HF.out]
            have h9 := HWR.out.sent HP.out HX9.out (q := s.sent + (msgs t f ((near t).take k)).length + 1) (by simpa using HH9.out)
            simpa [Nat.add_assoc] using h9
          case measure => simp [intOf]; omega
      · obtain rfl : k = (near t).length := by omega
        rw [List.take_length] at HWR hml
        have HH : Hid (ES.take near s f t = (({ s with frm := upI s.frm t f, way := s.way ++ msgs t f (near t), sent := s.sent + (msgs t f (near t)).length } : ES).less t).answer t) := Lib.hid (by rw [HH0.out, HS.out])
        clear HH0 HS HVC
        have hs1 : Hid (∃ s1 : ES, ({ s with frm := upI s.frm t f, way := s.way ++ msgs t f (near t), sent := s.sent + (msgs t f (near t)).length } : ES) = s1 ∧ s1.wait t = s.wait t ∧ s1.frm t = f ∧ s1.way.length ≤ 950 ∧ s1.sent ≤ 950) := Lib.hid ⟨_, rfl, rfl, upI_same _ _ _, by simp; omega, by simp; omega⟩
        obtain ⟨s1, e1, e2, e3, e4, e5⟩ := hs1.out
        clear hs1
        rw [e1] at HH HWR
        clear e1 hml b5 b6
        rw [← e2] at b1 b2
        have b3' : -2 ≤ s1.frm t := by omega
        have b4' : 0 ≤ s1.frm t := by omega
        clear e2 e3 b3 b4 HJ HW hlt hk
        obtain ⟨c0, c2, c3, c4⟩ := HWR.out.cells
        have z3 := HWR.out.frm.cell (rowOf_get (g := intsF s1.frm) ht)
        have z2 := HWR.out.wait.cell (rowOf_get (g := intsF s1.wait) ht)
        have f3 := HWR.out.frm.frozen
        have f2 := HWR.out.wait.frozen
        have hfl := HWR.out.frm.lt
        unfold sl at c0 c2 c3
        unfold intsF at z2 z3
        clear d1 d1' d5 d5'
        by_cases ha : s1.wait t - 1 = 0
        · have ha2 : s1.wait t = 1 := by omega
          have HA : Hid (s1.wait t - 1 = 0) := Lib.hid ha
          rw [ha2] at z2
          clear ha ha2
          by_cases hb : 0 ≤ s1.frm t
          · obtain ⟨q, hq⟩ : ∃ q : Nat, s1.frm t = q := ⟨(s1.frm t).toNat, by omega⟩
            rw [hq] at z3
            have HQ := Lib.hid hq
            have HHB := Lib.hid hb
            clear hq hb
            go_wp2_with fail
            refine (send_any _ p base (sl nb n) (sl wb n) (sl fb n) s1.way s1.sent t q (HWR.out.store_wait HP.out t 0).head (by omega) (by omega) (by omega)).mono ?_
            rintro e w9 ⟨rfl, hh9, hx9, hf9⟩
            have HH9 := Lib.hid hh9
            have HX9 := Lib.hid hx9
            have HF9 := Lib.hid hf9
            clear hh9 hx9 hf9
            go_wp2
            go_end0
            refine ⟨rfl, ?_, (HXR.out.1.setCell (.inr (by simp)) _).trans (HX9.out.mono (Nat.le_refl _) (by simp)), (HXR.out.2.setCell (by simp) _).trans (HF9.out.mono (by simp))⟩
            rw [HH.out]
            unfold ES.answer ES.less
            rw [if_pos ⟨by simp [upI_same, HA.out], HHB.out⟩]
            have h9 := (HWR.out.store_wait HP.out t 0).sent HP.out HX9.out HH9.out
            rw [HA.out]
            have e9 : (s1.frm t).toNat = q := by have := HQ.out; omega
            unfold ES.send
            simp only [e9]
            exact h9
          · exact absurd b4' hb
        · have ha2 : (s1.wait t - 1 == 0) = false := by simpa using ha
          have HA := Lib.hid ha
          clear ha
          go_wp2
          go_end0
          refine ⟨rfl, ?_, HXR.out.1.setCell (.inr (by simp)) _, HXR.out.2.setCell (by simp) _⟩
          rw [HH.out]
          unfold ES.answer ES.less
          rw [if_neg (by simp [upI_same]; intro h; exact absurd h HA.out)]
          exact HWR.out.store_wait HP.out t _
  · have hj2 : (s.frm t == -1) = false := by simpa using hj
    have HH : Hid (ES.take near s f t = (s.less t).answer t) := Lib.hid (by unfold ES.take ES.hear; rw [if_neg hj])
    clear hj
    go_enter Try.func31, Try.ntmps31
    by_cases ha : s.wait t - 1 = 0
    · have ha2 : s.wait t = 1 := by omega
      have HA : Hid (s.wait t - 1 = 0) := Lib.hid ha
      rw [ha2] at z2
      clear ha ha2
      by_cases hb : 0 ≤ s.frm t
      · obtain ⟨q, hq⟩ : ∃ q : Nat, s.frm t = q := ⟨(s.frm t).toNat, by omega⟩
        rw [hq] at z3
        have HQ := Lib.hid hq
        have HHB := Lib.hid hb
        clear hq hb
        go_wp2_with fail
        refine (send_any _ p base (sl nb n) (sl wb n) (sl fb n) s.way s.sent t q (HW.out.store_wait HP.out t 0).head (by omega) (by omega) (by omega)).mono ?_
        rintro e w9 ⟨rfl, hh9, hx9, hf9⟩
        have HH9 := Lib.hid hh9
        have HX9 := Lib.hid hx9
        have HF9 := Lib.hid hf9
        clear hh9 hx9 hf9
        go_wp2
        go_end0
        refine ⟨rfl, ?_, (HX.out.1.setCell (.inr (by simp)) _).trans (HX9.out.mono (Nat.le_refl _) (by simp)), (HX.out.2.setCell (by simp) _).trans (HF9.out.mono (by simp))⟩
        rw [HH.out]
        unfold ES.answer ES.less
        rw [if_pos ⟨by simp [upI_same, HA.out], HHB.out⟩]
        have h9 := (HW.out.store_wait HP.out t 0).sent HP.out HX9.out HH9.out
        rw [HA.out]
        have e9 : (s.frm t).toNat = q := by have := HQ.out; omega
        unfold ES.send
        simp only [e9]
        exact h9
      · have hb2 : s.frm t < 0 := by omega
        have HB2 := Lib.hid hb2
        clear hb
        go_wp2
        go_end0
        refine ⟨rfl, ?_, HX.out.1.setCell (.inr (by simp)) _, HX.out.2.setCell (by simp) _⟩
        rw [HH.out]
        unfold ES.answer ES.less
        rw [if_neg (by simp [upI_same]; have := HB2.out; omega), HA.out]
        exact HW.out.store_wait HP.out t 0
    · have ha2 : (s.wait t - 1 == 0) = false := by simpa using ha
      have HA := Lib.hid ha
      clear ha
      go_wp2
      go_end0
      refine ⟨rfl, ?_, HX.out.1.setCell (.inr (by simp)) _, HX.out.2.setCell (by simp) _⟩
      rw [HH.out]
      unfold ES.answer ES.less
      rw [if_neg (by simp [upI_same]; intro h; exact absurd h HA.out)]
      exact HW.out.store_wait HP.out t _
end Go.Proofs.Ytaodgbeobdholaa.Ec
