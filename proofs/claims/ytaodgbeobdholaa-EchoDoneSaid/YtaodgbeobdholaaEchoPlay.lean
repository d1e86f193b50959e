/-
  The walk through echo's Play.
-/
import Derived.Test.YtaodgbeobdholaaEchoWave
import Derived.Deep.DeepCutAuto
import Derived.Test.YtaodgbeobdholaaPhase
import Derived.Deep.AppendLies
import Derived.Lib.OwnBridge
namespace Go.Proofs.Ytaodgbeobdholaa.Ec
open Go Go.RowKit Mem

def echo0 : Value := .agg #[.slice none 0 0, .slice none 0 0, .bool false, .int .i64 0]
set_option maxHeartbeats 2000000 in
set_option maxRecDepth 100000 in
theorem play_bad (n start : Int) (ao oo : Option Addr) (cap oc m : Nat) (L : List (Int × Int)) (w : World) (hcap : L.length ≤ cap) (hL : LinksAt w ao L) (hm : (m : Int) ≤ 9223372036854775807) (hno : ¬ OkL n L start m) :
    Calls Try.prog 11 #[.int .i64 n, .slice ao L.length cap, .int .i64 start, .slice oo m oc] w fun e w' => (∃ r : Int, e = .returned (.tuple #[echo0, .int .i64 r]) ∧ (r == 0) = false) ∧ Below w.heap.size w w' := by
  have HL := Lib.hid hL
  clear hL
  go_enter Try.func11, Try.ntmps11
  go_wp2_with fail
  refine (wrong_any n start ao oo cap oc m L _ hcap (HL.out.later ((Below.refl _ _).alloc (Nat.le_refl _) _)) hm).mono ?_
  rintro e w1 ⟨⟨r, rfl, hr, hr0⟩, hb⟩
  have hre : ¬ r = 0 := fun e => hno (hr.1 e)
  have hre2 : (r == 0) = false := by simpa using hre
  have HB := Lib.hid hb
  have hbk : w1.cell? ⟨w.heap.size, 0, none⟩ = some (.slice none 0 0) ∧ w1.cell? ⟨w.heap.size, 1, none⟩ = some (.slice none 0 0) ∧ w1.cell? ⟨w.heap.size, 2, none⟩ = some (.bool false) ∧ w1.cell? ⟨w.heap.size, 3, none⟩ = some (.int .i64 0) := by
    have h0 := (Blk.new w [.slice none 0 0, .slice none 0 0, .bool false, .int .i64 0] 33).below hb (by simp)
    exact ⟨h0.cell rfl, h0.cell rfl, h0.cell rfl, h0.cell rfl⟩
  have hfz : ∀ o, w1.frozen? ⟨w.heap.size, o, none⟩ = false := ((Blk.new w [.slice none 0 0, .slice none 0 0, .bool false, .int .i64 0] 33).below hb (by simp)).frozen
  obtain ⟨b0, b1, b2, b3⟩ := hbk
  clear hb hr hr0 hre hno
  go_wp2
  refine bodyPost_ret (v := .tuple #[echo0, .int .i64 r]) (by simp [results, Try.results11, go_sem, b0, b1, b2, b3, echo0]) rfl ⟨⟨r, rfl, hre2⟩, ?_⟩
  have h1 : Below w.heap.size w w1 := ((Below.refl _ _).alloc (Nat.le_refl _) _).trans (HB.out.mono (by simp))
  exact (((h1.setCell (by simp) _).setCell (by simp) _).setCell (by simp) _).setCell (by simp) _

/-- the new wave -/
structure New (B n : Nat) (w0 : World) (p nb wb fb : Nat) (W : World) : Prop where
  head : Blk W p [sl nb n, .slice none 0 0, sl wb n, sl fb n, .int .i64 0] 59
  near : Blk W nb (rowOf n fun _ => .slice none 0 0) 23
  wait : Blk W wb (rowOf n (intsF fun _ => 0)) 3
  frm : Blk W fb (rowOf n (intsF fun _ => -1)) 3
  b1 : B ≤ nb
  b2 : B ≤ wb
  b3 : B ≤ fb
  b4 : nb < p
  b5 : wb < p
  b6 : fb < p
  d4 : nb ≠ wb
  d5 : nb ≠ fb
  d6 : wb ≠ fb
  below : Below B w0 W
theorem Blk.new_at {w : World} {b : Nat} (l : List Value) (T : TypeId) (h : b = w.heap.size) : Blk (w.alloc (.cells l.toArray T (0, 0))) b l T := h ▸ Blk.new w l T
theorem make23 (n : Nat) (h : n ≤ 6) (w : World) : (Instr.makeSlice 23 (.int .i64 n) (.int .i64 n)).run Try.prog w = .ok (sl w.heap.size n) (w.alloc (.cells (rowOf n (intsF fun _ => 0)).toArray 3)) := by
  obtain ⟨i0, hi0, hz0, hz1, hz2⟩ := info_parts info3
  have h := run_make (P := Try.prog) w 23 3 i0 _ Try.underlying23 hi0 hz0 .i64 .i64 (n : Int) (n : Int) (by omega) (Int.le_refl _) (by rw [hz2]; omega) (by omega)
  have e : rowOf n (intsF fun _ => 0) = rowOf n (fun _ => Value.int .i64 0) := rfl
  rw [e]
  simpa [hz1, Value.cells, made_row, rowOf_replicate, sl] using h
theorem info23 : (Try.prog.info? 23).map (fun i => (i.zero, i.size, i.bytes)) = some (some (.slice none 0 0), 1, 24) := by kernel_rfl
theorem make56 (n : Nat) (h : n ≤ 6) (w : World) : (Instr.makeSlice 56 (.int .i64 n) (.int .i64 n)).run Try.prog w = .ok (sl w.heap.size n) (w.alloc (.cells (rowOf n (fun _ => .slice none 0 0)).toArray 23)) := by
  obtain ⟨i0, hi0, hz0, hz1, hz2⟩ := info_parts info23
  have h := run_make (P := Try.prog) w 56 23 i0 _ Try.underlying56 hi0 hz0 .i64 .i64 (n : Int) (n : Int) (by omega) (Int.le_refl _) (by rw [hz2]; omega) (by omega)
  simpa [hz1, Value.cells, made_row, rowOf_replicate, sl] using h
theorem repeat_at (b n : Nat) (x : Int) {w : World} (h1 : 1 ≤ n) (h6 : n ≤ 6) (hc : Blk w b [.int .i64 x] 3) :
    Calls Try.prog 27 #[.slice (some ⟨b, 0, none⟩) 1 1, .int .i64 n] w fun e w' => ∃ g, e = .returned (.slice (some ⟨g, 0, none⟩) n n) ∧ Blk w' g (rowOf n (intsF fun _ => x)) 3 ∧ w.heap.size ≤ g ∧ Below w.heap.size w w' ∧ g < w'.heap.size := by
  refine (repeat_any b n x w h1 h6 (hc.cell rfl)).mono ?_
  rintro e w' ⟨g, rfl, h2, h3, h4⟩
  exact ⟨g, rfl, h2, h3, h4, h2.lt⟩


/-- a slice value whose elements read as the ints -/
def IntsAt (w : World) (oa : Option Addr) (C : List Int) : Prop :=
  C ≠ [] → ∃ b off, oa = some ⟨b, off, none⟩ ∧ ∀ k x, C[k]? = some x → w.cell? ⟨b, off + k, none⟩ = some (.int .i64 x)
theorem IntsAt.later {w w' : World} {oa : Option Addr} {O : List Int} (h : IntsAt w oa O) (hb : Below w.heap.size w w') : IntsAt w' oa O := by
  intro hne
  obtain ⟨b, off, e, hc⟩ := h hne
  exact ⟨b, off, e, fun k i hi => (hb.cell (p := ⟨b, off + k, none⟩) (World.block_lt_of_cell? w _ (hc k i hi))).trans (hc k i hi)⟩
theorem held_alloc {p nb mb a : Nat} {v0 v1 v2 v3 : Value} {W : World} {o : Obj} (h : W.cell? ⟨p, 0, none⟩ = some v0 ∧ W.cell? ⟨mb, 0, none⟩ = some v1 ∧ W.cell? ⟨mb, 1, none⟩ = some v2 ∧ W.cell? ⟨nb, a, none⟩ = some v3) :
    (W.alloc o).cell? ⟨p, 0, none⟩ = some v0 ∧ (W.alloc o).cell? ⟨mb, 0, none⟩ = some v1 ∧ (W.alloc o).cell? ⟨mb, 1, none⟩ = some v2 ∧ (W.alloc o).cell? ⟨nb, a, none⟩ = some v3 := by
  obtain ⟨h0, h1, h2, h3⟩ := h
  exact ⟨Lib.cell?_alloc_some o h0, Lib.cell?_alloc_some o h1, Lib.cell?_alloc_some o h2, Lib.cell?_alloc_some o h3⟩
theorem held_grown {p nb mb a n B : Nat} {lp lm : List Value} {V : Nat → Value} {v v0 v1 v2 v3 : Value} {len : Nat} {xs : List Value} {W wn : World} {o : Obj} (hown : W.ownsRow B 3 1 v len xs) (hr : Blk W nb (rowOf n V) 23) (hp : Blk W p lp 59) (hm : Blk W mb lm 38)
    (c0 : W.cell? ⟨p, 0, none⟩ = some v0) (c1 : W.cell? ⟨mb, 0, none⟩ = some v1) (c2 : W.cell? ⟨mb, 1, none⟩ = some v2) (c3 : W.cell? ⟨nb, a, none⟩ = some v3) (hg : (W.alloc o).drew.grownBy wn v.ownBlock) :
    wn.cell? ⟨p, 0, none⟩ = some v0 ∧ wn.cell? ⟨mb, 0, none⟩ = some v1 ∧ wn.cell? ⟨mb, 1, none⟩ = some v2 ∧ wn.cell? ⟨nb, a, none⟩ = some v3 := by
  have far : ∀ {b : Nat} {l : List Value} {T : TypeId} {q : Nat} {u : Value}, Blk W b l T → (3 : TypeId) ≠ T → W.cell? ⟨b, q, none⟩ = some u → wn.cell? ⟨b, q, none⟩ = some u := fun {b l T q u} hb hT hc => by
    have h1 : Blk (W.alloc o).drew b l T := (hb.alloc o).drew
    have h2 := h1.grown hg (ownsRow_ne hown hb hT)
    rw [← hc]
    exact World.cell?_of_block (w := W) (h2.trans hb.symm)
  exact ⟨far hp (by decide) c0, far hm (by decide) c1, far hm (by decide) c2, far hr (by decide) c3⟩
theorem frz_grown {nb n B : Nat} {V : Nat → Value} {v : Value} {len : Nat} {xs : List Value} {W wn : World} {o : Obj} (hown : W.ownsRow B 3 1 v len xs) (hr : Blk W nb (rowOf n V) 23) (hg : (W.alloc o).drew.grownBy wn v.ownBlock) : ∀ q, wn.frozen? ⟨nb, q, none⟩ = false :=
  ((hr.alloc o).drew.grown hg (ownsRow_ne hown hr (by decide))).frozen
theorem _root_.Go.Proofs.Ytaodgbeobdholaa.Mem.Blk.inj2 {w : World} {b b' : Nat} {l l' : List Value} {T T' : TypeId} (h : Blk w b l T) (h' : Blk w b' l' T') (hT : T ≠ T') : b ≠ b' := by
  rintro rfl
  exact hT (h.inj h')
theorem castL_get {M : List (Nat × Nat)} {k : Nat} {l : Nat × Nat} (h : M[k]? = some l) : (castL M)[k]? = some (((l.1 : Nat) : Int), ((l.2 : Nat) : Int)) := by simp [castL, h]
theorem near_next {M : List (Nat × Nat)} {k a b : Nat} (h : M[k]? = some (a, b)) (hab : a ≠ b) : nearOf (M.take (k + 1)) = upL (upL (nearOf (M.take k)) a (nearOf (M.take k) a ++ [b])) b (upL (nearOf (M.take k)) a (nearOf (M.take k) a ++ [b]) b ++ [a]) := by
  have e : M.take (k + 1) = M.take k ++ [(a, b)] := by rw [List.take_add_one, h]; rfl
  funext i
  rw [e, nearOf_snoc]
  unfold upL
  by_cases h1 : i = b
  · subst h1
    rw [if_pos rfl, if_neg (Ne.symm hab), if_neg hab, if_pos rfl]
  · rw [if_neg h1]
    by_cases h2 : i = a
    · subst h2; rw [if_pos rfl, if_pos rfl]
    · rw [if_neg h2, if_neg (Ne.symm h2), if_neg (Ne.symm h1)]; simp
theorem nearOf_len (M : List (Nat × Nat)) (i : Nat) : (nearOf M i).length ≤ M.length := by
  unfold nearOf
  induction M with
  | nil => simp
  | cons l M ih =>
    rw [List.flatMap_cons, List.length_append]
    have : (if l.1 = i then [l.2] else if l.2 = i then [l.1] else []).length ≤ 1 := by
      split
      · simp
      · split <;> simp
    rw [List.length_cons]; omega

/-- what Play leaves -/
def PlayEnd (n start : Nat) (M : List (Nat × Nat)) (O : List Int) (w : World) (e : Ending) (w' : World) : Prop :=
  ∃ (P : Nat → List Nat) (ca : Option Addr) (cc fb : Nat), (∀ i, (P i).Perm (nearOf M i)) ∧
    e = .returned (.tuple #[.agg #[.slice ca O.length cc, sl fb n, .bool ((play P start O).wait start == 0), .int .i64 ((play P start O).sent : Nat)], .int .i64 0]) ∧
    Blk w' fb (rowOf n (intsF (upI (play P start O).frm start (-1)))) 3 ∧ Below w.heap.size w w'

set_option maxHeartbeats 20000000 in
set_option maxRecDepth 100000 in
theorem play_good (n start : Nat) (ao oo : Option Addr) (cap oc : Nat) (M : List (Nat × Nat)) (O : List Int) (w : World) (hcap : M.length ≤ cap) (hL : LinksAt w ao (castL M)) (hO : IntsAt w oo O) (hok : OkL n (castL M) start O.length) (G : Good n M) :
    Calls Try.prog 11 #[.int .i64 n, .slice ao M.length cap, .int .i64 start, .slice oo O.length oc] w fun e w' => PlayEnd n start M O w e w' := by
  have hlm : (castL M).length = M.length := by simp [castL]
  have HLM := Lib.hid hlm
  have HL := Lib.hid hL
  have HO := Lib.hid hO
  have HG := Lib.hid G
  have HOK := Lib.hid hok
  have n1 : 1 ≤ n := by have := hok.n1; omega
  have n6 : n ≤ 6 := by have := hok.n6; omega
  have hm : (O.length : Int) ≤ 9223372036854775807 := by have := hok.m60; omega
  have hl15 : M.length ≤ 15 := by have := hok.l15; omega
  clear hL hok hO G hlm
  have hm56 := make56 n n6
  have hm23 := make23 n n6
  unfold sl at hm56 hm23
  go_enter Try.func11, Try.ntmps11
  go_wp2_with fail
  have hwr := wrong_any n start ao oo cap oc O.length (castL M) (w.alloc (.cells #[.slice none 0 0, .slice none 0 0, .bool false, .int .i64 0] 33)) (by rw [HLM.out]; exact hcap) (HL.out.later ((Below.refl _ _).alloc (Nat.le_refl _) _)) hm
  rw [HLM.out] at hwr
  refine hwr.mono ?_
  clear hwr
  rintro e w1 ⟨⟨r, rfl, hr, hr0⟩, hb⟩
  obtain rfl : r = 0 := hr.2 HOK.out
  have hb1 : Below w.heap.size w w1 := ((Below.refl _ _).alloc (Nat.le_refl _) _).trans (hb.mono (by simp))
  have hE : Blk w1 w.heap.size [.slice none 0 0, .slice none 0 0, .bool false, .int .i64 0] 33 := (Blk.new w [.slice none 0 0, .slice none 0 0, .bool false, .int .i64 0] 33).below hb (by simp)
  have HB := Lib.hid hb1
  have HE := Lib.hid hE
  clear hb hr hr0 hb1 hE
  go_upto_region 4 with fail
  go_cut [11] (fun s11 wx => ∃ p nb wb fb : Nat, s11 = .pointer (some ⟨p, 0, none⟩) ∧ New w1.heap.size n w1 p nb wb fb wx)
  case first =>
    go_region_with (go_at_call 27; refine (repeat_at _ n (-1) n1 n6 (by repeat (first | with_reducible exact Blk.new_at _ _ (by simp) | with_reducible refine Blk.alloc ?_ _ | with_reducible refine Blk.drew ?_))).mono ?_; rintro e w3 ⟨g, rfl, hg, hge, hbg, hgl⟩)
    all_goals
      go_wp2_with fail
      go_meet
      have hs := hbg.size
      have hs2 := hge
      simp at hs hs2
      have HBG := Lib.hid hbg
      refine ⟨_, _, _, _, rfl, New.mk (Blk.new_at [sl _ n, .slice none 0 0, sl _ n, sl _ n, .int .i64 0] 59 (by simp)) ?_ ?_ ?_ ?_ ?_ ?_ ?_ ?_ ?_ ?_ ?_ ?_ ?_⟩
      all_goals first
        | ((repeat (first | with_reducible assumption | with_reducible exact Blk.new_at _ _ (by simp) | with_reducible refine Blk.alloc ?_ _ | with_reducible refine Blk.drew ?_ | with_reducible refine Blk.below ?_ HBG.out (by first | omega | (simp; done) | (simp; omega)))); done)
        | omega
        | (simp; done)
        | (simp; omega)
        | ((repeat (first | with_reducible exact Below.refl _ _ | with_reducible refine Below.alloc ?_ (by first | omega | (simp; done) | (simp; omega)) _ | with_reducible refine Below.drew ?_ | with_reducible refine Below.trans ?_ (HBG.out.mono (by first | omega | (simp; done) | (simp; omega))))); done)
  case rest =>
  obtain ⟨p, nb, wb, fb, rfl, hnew⟩ := hcut
  clear hm56 hm23
  have HNEW := Lib.hid hnew
  have HBW := Lib.hid (HB.out.trans (hnew.below.mono HB.out.size))
  have HEB : Hid (w.heap.size < w1.heap.size) := Lib.hid HE.out.lt
  clear hnew
  obtain ⟨w2, hw2⟩ : ∃ W : World, W = wc := ⟨_, rfl⟩
  subst hw2
  obtain ⟨i0, hi0, hz0, hz1, hz2⟩ := info_parts info3
  have hpl := HNEW.out.head.lt
  have hnbp := HNEW.out.b4
  have hnb1 := HNEW.out.b1
  have hww := HB.out.size
  go_wp2
  go_loopw [42] (fun i wr => ∃ (k : Nat) (V : Nat → Value), k ≤ M.length ∧ i = .int .i64 k ∧ Rows1 n nb w2.heap.size (nearOf (M.take k)) V wr ∧ BelowX w2.heap.size [nb] w2 wr) (fun i _ => M.length - (intOf i).toNat)
  case atStart => exact ⟨0, fun _ => .slice none 0 0, Nat.zero_le _, rfl, ⟨HNEW.out.near, fun i hi => World.ownsRow_nil _ _ _ _, fun i j _ _ _ => .inl rfl⟩, BelowX.refl _ _ _⟩
  case round =>
    obtain ⟨k, V, hk, rfl, hrows, hkeep⟩ := hrel
    have HR := Lib.hid hrows
    have HK := Lib.hid hkeep
    have hwb : Below w.heap.size w wr := HBW.out.trans (hkeep.below (by omega) (by simp; omega))
    have HWB := Lib.hid hwb
    have hws := hkeep.size
    clear hrows hkeep hwb
    by_cases hlt : k < M.length
    · obtain ⟨l, hlk⟩ : ∃ l, M[k]? = some l := ⟨M[k], List.getElem?_eq_getElem hlt⟩
      obtain ⟨a, b⟩ := l
      obtain ⟨han, hbn, hab⟩ := HG.out.lt (a, b) (List.mem_of_getElem? hlk)
      simp only at han hbn hab
      obtain ⟨bb, off, rfl, hc⟩ := (HL.out.later HWB.out) (by intro e; rw [← HLM.out, e] at hlt; simp at hlt)
      obtain ⟨r0, r1⟩ := hc k _ (castL_get hlk)
      simp only at r0 r1
      have HLK := Lib.hid hlk
      clear hc hlk
      obtain ⟨N, hN⟩ : ∃ N, N = nearOf (M.take k) := ⟨_, rfl⟩
      rw [← hN] at HR
      have HN := Lib.hid hN
      have hnl : ∀ i, (N i).length ≤ 15 := fun i => by rw [hN]; have := nearOf_len (M.take k) i; rw [List.length_take] at this; omega
      have HNL := Lib.hid hnl
      clear hN hnl
      go_upto_region 8 with fail
      obtain ⟨mb, hmb⟩ : ∃ mb, mb = wr.heap.size := ⟨_, rfl⟩
      have HMB := Lib.hid hmb
      rw [← hmb]
      clear hmb
      go_cut [] (fun wx => ∃ V : Nat → Value, Rows1 n nb w2.heap.size (upL N a (N a ++ [b])) V wx ∧ BelowX w2.heap.size [nb] w2 wx ∧ Blk wx mb [.int .i64 a, .int .i64 b] 38)
      case first =>
        refine gen_world (P := Code.wp Try.prog _ _ _) (Q := fun W => Rows1 n nb w2.heap.size N V W ∧ BelowX w2.heap.size [nb] w2 W ∧ Blk W mb [.int .i64 a, .int .i64 b] 38) _ ?_ ?_
        · exact ⟨HR.out.alloc _, HK.out.alloc hws _, HMB.out ▸ Blk.new wr [_, _] 38⟩
        clear r0 r1 HR HK HWB hws HMB
        intro wm hI
        obtain ⟨hrow, hkeep, hm0⟩ := hI
        obtain ⟨oa, cp, hVa, _⟩ := ownsRow_slice (hrow.own a han)
        have hown := hrow.own a han
        rw [hVa] at hown
        have HNA := HNL.out a
        have HOWN := Lib.hid hown
        have HROW := Lib.hid hrow
        have HKEEP := Lib.hid hkeep
        have HM := Lib.hid hm0
        have HVA := Lib.hid hVa
        have HP := Lib.hid (HNEW.out.head.belowX hkeep hpl (by simp; omega))
        have hsz := hkeep.size
        have c0 := HP.out.cell (o := 0) rfl
        have cm0 := hm0.cell (o := 0) rfl
        have cm1 := hm0.cell (o := 1) rfl
        have cn := hrow.row.cell (rowOf_get (g := V) han)
        have hfz := hrow.row.frozen
        rw [hVa] at cn
        unfold sl at c0
        clear hrow hkeep hm0 hown hVa
        refine wp_region_parted (S := (fun W => W.cell? ⟨p, 0, none⟩ = some (.slice (some ⟨nb, 0, none⟩) n n) ∧ W.cell? ⟨mb, 0, none⟩ = some (.int .i64 a) ∧ W.cell? ⟨mb, 1, none⟩ = some (.int .i64 b) ∧ W.cell? ⟨nb, a, none⟩ = some (.slice oa (N a).length cp))) #[{ dst := some 46, op := Go.Op.move (Go.Operand.tmp 11), type := 55, pos := "echo.go:68", after := #[], guard := none }, { dst := some 47, op := Go.Op.nilCheck (Go.Operand.tmp 46), type := 0, pos := "echo.go:68", after := #[{ on := 0, ground := Go.Ground.data }], guard := none }, { dst := some 48, op := Go.Op.fieldAddr 59 (Go.Operand.tmp 47) 0, type := 0, pos := "echo.go:68", after := #[{ on := 1, ground := Go.Ground.data }], guard := none }, { dst := some 49, op := Go.Op.load 56 (Go.Operand.tmp 48), type := 56, pos := "echo.go:68", after := #[{ on := 2, ground := Go.Ground.data }], guard := none }, { dst := some 50, op := Go.Op.indexAddr 38 (Go.Operand.tmp 13) (Go.Operand.const (Go.Value.int Go.IntKind.i64 0)), type := 0, pos := "echo.go:68", after := #[], guard := none }, { dst := some 51, op := Go.Op.load 3 (Go.Operand.tmp 50), type := 3, pos := "echo.go:68", after := #[{ on := 4, ground := Go.Ground.data }], guard := none }, { dst := some 52, op := Go.Op.move (Go.Operand.tmp 11), type := 55, pos := "echo.go:68", after := #[], guard := none }, { dst := some 53, op := Go.Op.nilCheck (Go.Operand.tmp 52), type := 0, pos := "echo.go:68", after := #[{ on := 6, ground := Go.Ground.data }], guard := none }, { dst := some 54, op := Go.Op.fieldAddr 59 (Go.Operand.tmp 53) 0, type := 0, pos := "echo.go:68", after := #[{ on := 7, ground := Go.Ground.data }], guard := none }, { dst := some 55, op := Go.Op.load 56 (Go.Operand.tmp 54), type := 56, pos := "echo.go:68", after := #[{ on := 8, ground := Go.Ground.data }], guard := none }, { dst := some 56, op := Go.Op.indexAddr 38 (Go.Operand.tmp 13) (Go.Operand.const (Go.Value.int Go.IntKind.i64 0)), type := 0, pos := "echo.go:68", after := #[], guard := none }, { dst := some 57, op := Go.Op.load 3 (Go.Operand.tmp 56), type := 3, pos := "echo.go:68", after := #[{ on := 10, ground := Go.Ground.data }], guard := none }, { dst := some 58, op := Go.Op.indexAddr 56 (Go.Operand.tmp 55) (Go.Operand.tmp 57), type := 0, pos := "echo.go:68", after := #[{ on := 9, ground := Go.Ground.data }, { on := 11, ground := Go.Ground.data }], guard := none }, { dst := some 59, op := Go.Op.load 23 (Go.Operand.tmp 58), type := 23, pos := "echo.go:68", after := #[{ on := 12, ground := Go.Ground.data }], guard := none }, { dst := some 60, op := Go.Op.indexAddr 38 (Go.Operand.tmp 13) (Go.Operand.const (Go.Value.int Go.IntKind.i64 1)), type := 0, pos := "echo.go:68", after := #[], guard := none }, { dst := some 61, op := Go.Op.load 3 (Go.Operand.tmp 60), type := 3, pos := "echo.go:68", after := #[{ on := 14, ground := Go.Ground.data }], guard := none }, { dst := some 62, op := Go.Op.buildSlice 23 1 #[(0, Go.Operand.tmp 61)], type := 23, pos := "echo.go:68", after := #[{ on := 15, ground := Go.Ground.data }], guard := none }, { dst := some 63, op := Go.Op.call { callee := Go.Callee.builtin Go.Builtin.append, args := #[Go.Operand.tmp 59, Go.Operand.tmp 62], argTypes := #[23, 23] }, type := 23, pos := "echo.go:68", after := #[{ on := 13, ground := Go.Ground.data }, { on := 16, ground := Go.Ground.data }], guard := none }] (by kernel_rfl) (by kernel_rfl) (by kernel_rfl) ?_ (fun hHeld => ?_)
        · (first | exact ⟨c0, cm0, cm1, cn⟩ | exact held_alloc (by assumption) | assumption)
        skip
        refine wpAnyH_take (i := 0) (oi := { dst := some 46, op := Go.Op.move (Go.Operand.tmp 11), type := 55, pos := "echo.go:68", after := #[], guard := none }) (v := ?_) rfl (by kernel_rfl) (by kernel_rfl) (by kernel_rfl) (fun _ _ _ h => h) (Or.inl ⟨by rfl, ?_⟩) (by assumption) ?_
        rotate_left 1
        · intro w hSw; (try dsimp only at hSw); go_simp; try with_reducible rfl
        (try simp only [Act.put, List.setIfInBounds_toArray, List.set_cons_zero, List.set_cons_succ])
        refine wpAnyH_take (i := 1) (oi := { dst := some 47, op := Go.Op.nilCheck (Go.Operand.tmp 46), type := 0, pos := "echo.go:68", after := #[{ on := 0, ground := Go.Ground.data }], guard := none }) (v := ?_) rfl (by kernel_rfl) (by kernel_rfl) (by kernel_rfl) (fun _ _ _ h => h) (Or.inl ⟨by rfl, ?_⟩) (by assumption) ?_
        rotate_left 1
        · intro w hSw; (try dsimp only at hSw); go_simp; try with_reducible rfl
        (try simp only [Act.put, List.setIfInBounds_toArray, List.set_cons_zero, List.set_cons_succ])
        refine wpAnyH_take (i := 2) (oi := { dst := some 48, op := Go.Op.fieldAddr 59 (Go.Operand.tmp 47) 0, type := 0, pos := "echo.go:68", after := #[{ on := 1, ground := Go.Ground.data }], guard := none }) (v := ?_) rfl (by kernel_rfl) (by kernel_rfl) (by kernel_rfl) (fun _ _ _ h => h) (Or.inl ⟨by rfl, ?_⟩) (by assumption) ?_
        rotate_left 1
        · intro w hSw; (try dsimp only at hSw); go_simp; try with_reducible rfl
        (try simp only [Act.put, List.setIfInBounds_toArray, List.set_cons_zero, List.set_cons_succ])
        refine wpAnyH_take (i := 3) (oi := { dst := some 49, op := Go.Op.load 56 (Go.Operand.tmp 48), type := 56, pos := "echo.go:68", after := #[{ on := 2, ground := Go.Ground.data }], guard := none }) (v := ?_) rfl (by kernel_rfl) (by kernel_rfl) (by kernel_rfl) (fun _ _ _ h => h) (Or.inl ⟨by rfl, ?_⟩) (by assumption) ?_
        rotate_left 1
        · intro w hSw; (try dsimp only at hSw); go_simp; try with_reducible rfl
        (try simp only [Act.put, List.setIfInBounds_toArray, List.set_cons_zero, List.set_cons_succ])
        refine wpAnyH_take (i := 4) (oi := { dst := some 50, op := Go.Op.indexAddr 38 (Go.Operand.tmp 13) (Go.Operand.const (Go.Value.int Go.IntKind.i64 0)), type := 0, pos := "echo.go:68", after := #[], guard := none }) (v := ?_) rfl (by kernel_rfl) (by kernel_rfl) (by kernel_rfl) (fun _ _ _ h => h) (Or.inl ⟨by rfl, ?_⟩) (by assumption) ?_
        rotate_left 1
        · intro w hSw; (try dsimp only at hSw); go_simp; try with_reducible rfl
        (try simp only [Act.put, List.setIfInBounds_toArray, List.set_cons_zero, List.set_cons_succ])
        refine wpAnyH_take (i := 5) (oi := { dst := some 51, op := Go.Op.load 3 (Go.Operand.tmp 50), type := 3, pos := "echo.go:68", after := #[{ on := 4, ground := Go.Ground.data }], guard := none }) (v := ?_) rfl (by kernel_rfl) (by kernel_rfl) (by kernel_rfl) (fun _ _ _ h => h) (Or.inl ⟨by rfl, ?_⟩) (by assumption) ?_
        rotate_left 1
        · intro w hSw; (try dsimp only at hSw); go_simp; try with_reducible rfl
        (try simp only [Act.put, List.setIfInBounds_toArray, List.set_cons_zero, List.set_cons_succ])
        refine wpAnyH_take (i := 6) (oi := { dst := some 52, op := Go.Op.move (Go.Operand.tmp 11), type := 55, pos := "echo.go:68", after := #[], guard := none }) (v := ?_) rfl (by kernel_rfl) (by kernel_rfl) (by kernel_rfl) (fun _ _ _ h => h) (Or.inl ⟨by rfl, ?_⟩) (by assumption) ?_
        rotate_left 1
        · intro w hSw; (try dsimp only at hSw); go_simp; try with_reducible rfl
        (try simp only [Act.put, List.setIfInBounds_toArray, List.set_cons_zero, List.set_cons_succ])
        refine wpAnyH_take (i := 7) (oi := { dst := some 53, op := Go.Op.nilCheck (Go.Operand.tmp 52), type := 0, pos := "echo.go:68", after := #[{ on := 6, ground := Go.Ground.data }], guard := none }) (v := ?_) rfl (by kernel_rfl) (by kernel_rfl) (by kernel_rfl) (fun _ _ _ h => h) (Or.inl ⟨by rfl, ?_⟩) (by assumption) ?_
        rotate_left 1
        · intro w hSw; (try dsimp only at hSw); go_simp; try with_reducible rfl
        (try simp only [Act.put, List.setIfInBounds_toArray, List.set_cons_zero, List.set_cons_succ])
        refine wpAnyH_take (i := 8) (oi := { dst := some 54, op := Go.Op.fieldAddr 59 (Go.Operand.tmp 53) 0, type := 0, pos := "echo.go:68", after := #[{ on := 7, ground := Go.Ground.data }], guard := none }) (v := ?_) rfl (by kernel_rfl) (by kernel_rfl) (by kernel_rfl) (fun _ _ _ h => h) (Or.inl ⟨by rfl, ?_⟩) (by assumption) ?_
        rotate_left 1
        · intro w hSw; (try dsimp only at hSw); go_simp; try with_reducible rfl
        (try simp only [Act.put, List.setIfInBounds_toArray, List.set_cons_zero, List.set_cons_succ])
        refine wpAnyH_take (i := 9) (oi := { dst := some 55, op := Go.Op.load 56 (Go.Operand.tmp 54), type := 56, pos := "echo.go:68", after := #[{ on := 8, ground := Go.Ground.data }], guard := none }) (v := ?_) rfl (by kernel_rfl) (by kernel_rfl) (by kernel_rfl) (fun _ _ _ h => h) (Or.inl ⟨by rfl, ?_⟩) (by assumption) ?_
        rotate_left 1
        · intro w hSw; (try dsimp only at hSw); go_simp; try with_reducible rfl
        (try simp only [Act.put, List.setIfInBounds_toArray, List.set_cons_zero, List.set_cons_succ])
        refine wpAnyH_take (i := 10) (oi := { dst := some 56, op := Go.Op.indexAddr 38 (Go.Operand.tmp 13) (Go.Operand.const (Go.Value.int Go.IntKind.i64 0)), type := 0, pos := "echo.go:68", after := #[], guard := none }) (v := ?_) rfl (by kernel_rfl) (by kernel_rfl) (by kernel_rfl) (fun _ _ _ h => h) (Or.inl ⟨by rfl, ?_⟩) (by assumption) ?_
        rotate_left 1
        · intro w hSw; (try dsimp only at hSw); go_simp; try with_reducible rfl
        (try simp only [Act.put, List.setIfInBounds_toArray, List.set_cons_zero, List.set_cons_succ])
        refine wpAnyH_take (i := 11) (oi := { dst := some 57, op := Go.Op.load 3 (Go.Operand.tmp 56), type := 3, pos := "echo.go:68", after := #[{ on := 10, ground := Go.Ground.data }], guard := none }) (v := ?_) rfl (by kernel_rfl) (by kernel_rfl) (by kernel_rfl) (fun _ _ _ h => h) (Or.inl ⟨by rfl, ?_⟩) (by assumption) ?_
        rotate_left 1
        · intro w hSw; (try dsimp only at hSw); go_simp; try with_reducible rfl
        (try simp only [Act.put, List.setIfInBounds_toArray, List.set_cons_zero, List.set_cons_succ])
        refine wpAnyH_take (i := 12) (oi := { dst := some 58, op := Go.Op.indexAddr 56 (Go.Operand.tmp 55) (Go.Operand.tmp 57), type := 0, pos := "echo.go:68", after := #[{ on := 9, ground := Go.Ground.data }, { on := 11, ground := Go.Ground.data }], guard := none }) (v := ?_) rfl (by kernel_rfl) (by kernel_rfl) (by kernel_rfl) (fun _ _ _ h => h) (Or.inl ⟨by rfl, ?_⟩) (by assumption) ?_
        rotate_left 1
        · intro w hSw; (try dsimp only at hSw); go_simp; try with_reducible rfl
        (try simp only [Act.put, List.setIfInBounds_toArray, List.set_cons_zero, List.set_cons_succ])
        refine wpAnyH_take (i := 13) (oi := { dst := some 59, op := Go.Op.load 23 (Go.Operand.tmp 58), type := 23, pos := "echo.go:68", after := #[{ on := 12, ground := Go.Ground.data }], guard := none }) (v := ?_) rfl (by kernel_rfl) (by kernel_rfl) (by kernel_rfl) (fun _ _ _ h => h) (Or.inl ⟨by rfl, ?_⟩) (by assumption) ?_
        rotate_left 1
        · intro w hSw; (try dsimp only at hSw); go_simp; try with_reducible rfl
        (try simp only [Act.put, List.setIfInBounds_toArray, List.set_cons_zero, List.set_cons_succ])
        refine wpAnyH_take (i := 14) (oi := { dst := some 60, op := Go.Op.indexAddr 38 (Go.Operand.tmp 13) (Go.Operand.const (Go.Value.int Go.IntKind.i64 1)), type := 0, pos := "echo.go:68", after := #[], guard := none }) (v := ?_) rfl (by kernel_rfl) (by kernel_rfl) (by kernel_rfl) (fun _ _ _ h => h) (Or.inl ⟨by rfl, ?_⟩) (by assumption) ?_
        rotate_left 1
        · intro w hSw; (try dsimp only at hSw); go_simp; try with_reducible rfl
        (try simp only [Act.put, List.setIfInBounds_toArray, List.set_cons_zero, List.set_cons_succ])
        refine wpAnyH_take (i := 15) (oi := { dst := some 61, op := Go.Op.load 3 (Go.Operand.tmp 60), type := 3, pos := "echo.go:68", after := #[{ on := 14, ground := Go.Ground.data }], guard := none }) (v := ?_) rfl (by kernel_rfl) (by kernel_rfl) (by kernel_rfl) (fun _ _ _ h => h) (Or.inl ⟨by rfl, ?_⟩) (by assumption) ?_
        rotate_left 1
        · intro w hSw; (try dsimp only at hSw); go_simp; try with_reducible rfl
        (try simp only [Act.put, List.setIfInBounds_toArray, List.set_cons_zero, List.set_cons_succ])
        refine wpAnyH_ready (rs := [16]) (by kernel_rfl) (by simp) ?_
        refine AllReadyH.cons (o := { dst := some 62, op := Go.Op.buildSlice 23 1 #[(0, Go.Operand.tmp 61)], type := 23, pos := "echo.go:68", after := #[{ on := 15, ground := Go.Ground.data }], guard := none }) rfl (fun K hK => ?_) ?_
        · go_simp
          refine hK.out _ _ ?_ (fun hHeld => ?_)
          · (first | exact ⟨c0, cm0, cm1, cn⟩ | exact held_alloc (by assumption) | assumption)
          clear hK K
          (try simp only [Act.put, List.setIfInBounds_toArray, List.set_cons_zero, List.set_cons_succ])
          refine wpAnyH_ready (rs := [17]) (by kernel_rfl) (by simp) ?_
          refine AllReadyH.cons (o := { dst := some 63, op := Go.Op.call { callee := Go.Callee.builtin Go.Builtin.append, args := #[Go.Operand.tmp 59, Go.Operand.tmp 62], argTypes := #[23, 23] }, type := 23, pos := "echo.go:68", after := #[{ on := 13, ground := Go.Ground.data }, { on := 16, ground := Go.Ground.data }], guard := none }) rfl (fun K hK => ?_) ?_
          · (refine step_append_lies _ (by rfl) _ _ _ (by rfl) w2.heap.size 3 i0 _ 1 8 Try.underlying23 hi0 hz0 hz1 hz2 rfl (by omega) (.slice oa (N a).length cp) _ _ (by rfl) ((HOWN.out.alloc _).drew) ⟨wm.heap.size, 0, none⟩ 1 1 [.int .i64 b] (by rfl) (by rfl) (World.news_of_block (cs := #[.int .i64 b]) (t := 3) (fr := (0, 0)) (heap_alloc_new wm _)) (by simp [Value.oneCell']) (by omega) (by unfold maxLen; omega) (by omega) (by simp; omega) _ rfl ?_; intro gg cap2 wn hown1 hgrow hat hlt2; have hS1 := held_grown HOWN.out HROW.out.row HP.out HM.out c0 cm0 cm1 cn hgrow; have cn9 := hS1.2.2.2; have fz9 := frz_grown HOWN.out HROW.out.row hgrow)
            refine hK.out _ _ ?_ (fun hHeld => ?_)
            · (first | exact ⟨c0, cm0, cm1, cn⟩ | exact held_alloc (by assumption) | assumption)
            clear hK K
            (try simp only [Act.put, List.setIfInBounds_toArray, List.set_cons_zero, List.set_cons_succ])
            refine wpAnyH_done (by kernel_rfl) ?_ _
            show wpAny _ _ _ _ 2 _ _ _
            refine wpAny_take (i := 18) (oi := { dst := some 64, op := Go.Op.indexAddr 56 (Go.Operand.tmp 49) (Go.Operand.tmp 51), type := 0, pos := "echo.go:68", after := #[{ on := 3, ground := Go.Ground.data }, { on := 5, ground := Go.Ground.data }, { on := 0, ground := Go.Ground.phase }, { on := 1, ground := Go.Ground.phase }, { on := 2, ground := Go.Ground.phase }, { on := 3, ground := Go.Ground.phase }, { on := 4, ground := Go.Ground.phase }, { on := 5, ground := Go.Ground.phase }, { on := 6, ground := Go.Ground.phase }, { on := 7, ground := Go.Ground.phase }, { on := 8, ground := Go.Ground.phase }, { on := 9, ground := Go.Ground.phase }, { on := 10, ground := Go.Ground.phase }, { on := 11, ground := Go.Ground.phase }, { on := 12, ground := Go.Ground.phase }, { on := 13, ground := Go.Ground.phase }, { on := 14, ground := Go.Ground.phase }, { on := 15, ground := Go.Ground.phase }, { on := 16, ground := Go.Ground.phase }, { on := 17, ground := Go.Ground.phase }], guard := none }) (v := ?_) rfl (by kernel_rfl) (by kernel_rfl) (by kernel_rfl) (fun _ _ _ h => h) (Or.inl ⟨by rfl, ?_⟩) ?_
            rotate_left 1
            · intro w; go_simp; try with_reducible rfl
            (try simp only [Act.put, List.setIfInBounds_toArray, List.set_cons_zero, List.set_cons_succ])
            refine wpAny_ready (rs := [19]) (by kernel_rfl) (by simp) ?_
            refine AllReady.cons (o := { dst := none, op := Go.Op.store 23 (Go.Operand.tmp 64) (Go.Operand.tmp 63), type := 0, pos := "echo.go:68", after := #[{ on := 18, ground := Go.Ground.data }, { on := 17, ground := Go.Ground.data }, { on := 17, ground := Go.Ground.chain }, { on := 0, ground := Go.Ground.phase }, { on := 1, ground := Go.Ground.phase }, { on := 2, ground := Go.Ground.phase }, { on := 3, ground := Go.Ground.phase }, { on := 4, ground := Go.Ground.phase }, { on := 5, ground := Go.Ground.phase }, { on := 6, ground := Go.Ground.phase }, { on := 7, ground := Go.Ground.phase }, { on := 8, ground := Go.Ground.phase }, { on := 9, ground := Go.Ground.phase }, { on := 10, ground := Go.Ground.phase }, { on := 11, ground := Go.Ground.phase }, { on := 12, ground := Go.Ground.phase }, { on := 13, ground := Go.Ground.phase }, { on := 14, ground := Go.Ground.phase }, { on := 15, ground := Go.Ground.phase }, { on := 16, ground := Go.Ground.phase }, { on := 17, ground := Go.Ground.phase }], guard := none }) rfl (fun K hK => ?_) ?_
            · go_simp
              refine hK _ _ ?_
              clear hK K
              (try simp only [Act.put, List.setIfInBounds_toArray, List.set_cons_zero, List.set_cons_succ])
              refine wpAny_done (by kernel_rfl) ?_ _
              go_wp2_with fail
              go_meet
              have h9 := HROW.out.step HKEEP.out (by omega) (by omega) han (W0 := (wm.alloc (.cells #[.int .i64 b] 3)).drew) (b := b) (H := (wm.alloc (.cells #[.int .i64 b] 3)).drew.heap.size) (fun q hq => Below.heap_alloc _ _ _ hq) (HKEEP.out.alloc hsz _).drew (by simp) (by simp) hown1 (by rw [HVA.out]; exact hgrow) (by rw [HVA.out]; exact hat)
              exact ⟨_, h9.1, h9.2, ((((HM.out.alloc _).drew).grown hgrow (ownsRow_ne HOWN.out HM.out (by decide))).set_ne _ _ (by have := HM.out.inj2 HROW.out.row (by decide); simp; omega))⟩
            exact AllReady.nil
          exact AllReadyH.nil
        exact AllReadyH.nil
      case rest =>
      obtain ⟨V1, hrow, hkeep, hm0⟩ := hcut
      obtain ⟨N1, hN1⟩ : ∃ N1, N1 = upL N a (N a ++ [b]) := ⟨_, rfl⟩
      rw [← hN1] at hrow
      have HNL1 : Hid (∀ i, (N1 i).length ≤ 16) := Lib.hid (fun i => by
        rw [hN1]; unfold upL; have := HNL.out i; have := HNL.out a
        split
        · simp; omega
        · omega)
      have HN1 := Lib.hid hN1
      clear hN1 r0 r1 HR HK HWB hws HMB
      go_upto_region 9 with fail
      obtain ⟨wm, hwm⟩ : ∃ W : World, W = wc := ⟨_, rfl⟩
      subst hwm
      obtain ⟨oa, cp, hVa, _⟩ := ownsRow_slice (hrow.own b hbn)
      have hown := hrow.own b hbn
      rw [hVa] at hown
      have HNA := HNL1.out b
      have HOWN := Lib.hid hown
      have HROW := Lib.hid hrow
      have HKEEP := Lib.hid hkeep
      have HM := Lib.hid hm0
      have HVA := Lib.hid hVa
      have HP := Lib.hid (HNEW.out.head.belowX hkeep hpl (by simp; omega))
      have hsz := hkeep.size
      have c0 := HP.out.cell (o := 0) rfl
      have cm0 := hm0.cell (o := 0) rfl
      have cm1 := hm0.cell (o := 1) rfl
      have cn := hrow.row.cell (rowOf_get (g := V1) hbn)
      have hfz := hrow.row.frozen
      rw [hVa] at cn
      unfold sl at c0
      clear hrow hkeep hm0 hown hVa
      refine wp_region_parted (S := (fun W => W.cell? ⟨p, 0, none⟩ = some (.slice (some ⟨nb, 0, none⟩) n n) ∧ W.cell? ⟨mb, 0, none⟩ = some (.int .i64 a) ∧ W.cell? ⟨mb, 1, none⟩ = some (.int .i64 b) ∧ W.cell? ⟨nb, b, none⟩ = some (.slice oa (N1 b).length cp))) #[{ dst := some 65, op := Go.Op.move (Go.Operand.tmp 11), type := 55, pos := "echo.go:69", after := #[], guard := none }, { dst := some 66, op := Go.Op.nilCheck (Go.Operand.tmp 65), type := 0, pos := "echo.go:69", after := #[{ on := 0, ground := Go.Ground.data }], guard := none }, { dst := some 67, op := Go.Op.fieldAddr 59 (Go.Operand.tmp 66) 0, type := 0, pos := "echo.go:69", after := #[{ on := 1, ground := Go.Ground.data }], guard := none }, { dst := some 68, op := Go.Op.load 56 (Go.Operand.tmp 67), type := 56, pos := "echo.go:69", after := #[{ on := 2, ground := Go.Ground.data }], guard := none }, { dst := some 69, op := Go.Op.indexAddr 38 (Go.Operand.tmp 13) (Go.Operand.const (Go.Value.int Go.IntKind.i64 1)), type := 0, pos := "echo.go:69", after := #[], guard := none }, { dst := some 70, op := Go.Op.load 3 (Go.Operand.tmp 69), type := 3, pos := "echo.go:69", after := #[{ on := 4, ground := Go.Ground.data }], guard := none }, { dst := some 71, op := Go.Op.move (Go.Operand.tmp 11), type := 55, pos := "echo.go:69", after := #[], guard := none }, { dst := some 72, op := Go.Op.nilCheck (Go.Operand.tmp 71), type := 0, pos := "echo.go:69", after := #[{ on := 6, ground := Go.Ground.data }], guard := none }, { dst := some 73, op := Go.Op.fieldAddr 59 (Go.Operand.tmp 72) 0, type := 0, pos := "echo.go:69", after := #[{ on := 7, ground := Go.Ground.data }], guard := none }, { dst := some 74, op := Go.Op.load 56 (Go.Operand.tmp 73), type := 56, pos := "echo.go:69", after := #[{ on := 8, ground := Go.Ground.data }], guard := none }, { dst := some 75, op := Go.Op.indexAddr 38 (Go.Operand.tmp 13) (Go.Operand.const (Go.Value.int Go.IntKind.i64 1)), type := 0, pos := "echo.go:69", after := #[], guard := none }, { dst := some 76, op := Go.Op.load 3 (Go.Operand.tmp 75), type := 3, pos := "echo.go:69", after := #[{ on := 10, ground := Go.Ground.data }], guard := none }, { dst := some 77, op := Go.Op.indexAddr 56 (Go.Operand.tmp 74) (Go.Operand.tmp 76), type := 0, pos := "echo.go:69", after := #[{ on := 9, ground := Go.Ground.data }, { on := 11, ground := Go.Ground.data }], guard := none }, { dst := some 78, op := Go.Op.load 23 (Go.Operand.tmp 77), type := 23, pos := "echo.go:69", after := #[{ on := 12, ground := Go.Ground.data }], guard := none }, { dst := some 79, op := Go.Op.indexAddr 38 (Go.Operand.tmp 13) (Go.Operand.const (Go.Value.int Go.IntKind.i64 0)), type := 0, pos := "echo.go:69", after := #[], guard := none }, { dst := some 80, op := Go.Op.load 3 (Go.Operand.tmp 79), type := 3, pos := "echo.go:69", after := #[{ on := 14, ground := Go.Ground.data }], guard := none }, { dst := some 81, op := Go.Op.buildSlice 23 1 #[(0, Go.Operand.tmp 80)], type := 23, pos := "echo.go:69", after := #[{ on := 15, ground := Go.Ground.data }], guard := none }, { dst := some 82, op := Go.Op.call { callee := Go.Callee.builtin Go.Builtin.append, args := #[Go.Operand.tmp 78, Go.Operand.tmp 81], argTypes := #[23, 23] }, type := 23, pos := "echo.go:69", after := #[{ on := 13, ground := Go.Ground.data }, { on := 16, ground := Go.Ground.data }], guard := none }] (by kernel_rfl) (by kernel_rfl) (by kernel_rfl) ?_ (fun hHeld => ?_)
      · (first | exact ⟨c0, cm0, cm1, cn⟩ | exact held_alloc (by assumption) | assumption)
      skip
      refine wpAnyH_take (i := 0) (oi := { dst := some 65, op := Go.Op.move (Go.Operand.tmp 11), type := 55, pos := "echo.go:69", after := #[], guard := none }) (v := ?_) rfl (by kernel_rfl) (by kernel_rfl) (by kernel_rfl) (fun _ _ _ h => h) (Or.inl ⟨by rfl, ?_⟩) (by assumption) ?_
      rotate_left 1
      · intro w hSw; (try dsimp only at hSw); go_simp; try with_reducible rfl
      (try simp only [Act.put, List.setIfInBounds_toArray, List.set_cons_zero, List.set_cons_succ])
      refine wpAnyH_take (i := 1) (oi := { dst := some 66, op := Go.Op.nilCheck (Go.Operand.tmp 65), type := 0, pos := "echo.go:69", after := #[{ on := 0, ground := Go.Ground.data }], guard := none }) (v := ?_) rfl (by kernel_rfl) (by kernel_rfl) (by kernel_rfl) (fun _ _ _ h => h) (Or.inl ⟨by rfl, ?_⟩) (by assumption) ?_
      rotate_left 1
      · intro w hSw; (try dsimp only at hSw); go_simp; try with_reducible rfl
      (try simp only [Act.put, List.setIfInBounds_toArray, List.set_cons_zero, List.set_cons_succ])
      refine wpAnyH_take (i := 2) (oi := { dst := some 67, op := Go.Op.fieldAddr 59 (Go.Operand.tmp 66) 0, type := 0, pos := "echo.go:69", after := #[{ on := 1, ground := Go.Ground.data }], guard := none }) (v := ?_) rfl (by kernel_rfl) (by kernel_rfl) (by kernel_rfl) (fun _ _ _ h => h) (Or.inl ⟨by rfl, ?_⟩) (by assumption) ?_
      rotate_left 1
      · intro w hSw; (try dsimp only at hSw); go_simp; try with_reducible rfl
      (try simp only [Act.put, List.setIfInBounds_toArray, List.set_cons_zero, List.set_cons_succ])
      refine wpAnyH_take (i := 3) (oi := { dst := some 68, op := Go.Op.load 56 (Go.Operand.tmp 67), type := 56, pos := "echo.go:69", after := #[{ on := 2, ground := Go.Ground.data }], guard := none }) (v := ?_) rfl (by kernel_rfl) (by kernel_rfl) (by kernel_rfl) (fun _ _ _ h => h) (Or.inl ⟨by rfl, ?_⟩) (by assumption) ?_
      rotate_left 1
      · intro w hSw; (try dsimp only at hSw); go_simp; try with_reducible rfl
      (try simp only [Act.put, List.setIfInBounds_toArray, List.set_cons_zero, List.set_cons_succ])
      refine wpAnyH_take (i := 4) (oi := { dst := some 69, op := Go.Op.indexAddr 38 (Go.Operand.tmp 13) (Go.Operand.const (Go.Value.int Go.IntKind.i64 1)), type := 0, pos := "echo.go:69", after := #[], guard := none }) (v := ?_) rfl (by kernel_rfl) (by kernel_rfl) (by kernel_rfl) (fun _ _ _ h => h) (Or.inl ⟨by rfl, ?_⟩) (by assumption) ?_
      rotate_left 1
      · intro w hSw; (try dsimp only at hSw); go_simp; try with_reducible rfl
      (try simp only [Act.put, List.setIfInBounds_toArray, List.set_cons_zero, List.set_cons_succ])
      refine wpAnyH_take (i := 5) (oi := { dst := some 70, op := Go.Op.load 3 (Go.Operand.tmp 69), type := 3, pos := "echo.go:69", after := #[{ on := 4, ground := Go.Ground.data }], guard := none }) (v := ?_) rfl (by kernel_rfl) (by kernel_rfl) (by kernel_rfl) (fun _ _ _ h => h) (Or.inl ⟨by rfl, ?_⟩) (by assumption) ?_
      rotate_left 1
      · intro w hSw; (try dsimp only at hSw); go_simp; try with_reducible rfl
      (try simp only [Act.put, List.setIfInBounds_toArray, List.set_cons_zero, List.set_cons_succ])
      refine wpAnyH_take (i := 6) (oi := { dst := some 71, op := Go.Op.move (Go.Operand.tmp 11), type := 55, pos := "echo.go:69", after := #[], guard := none }) (v := ?_) rfl (by kernel_rfl) (by kernel_rfl) (by kernel_rfl) (fun _ _ _ h => h) (Or.inl ⟨by rfl, ?_⟩) (by assumption) ?_
      rotate_left 1
      · intro w hSw; (try dsimp only at hSw); go_simp; try with_reducible rfl
      (try simp only [Act.put, List.setIfInBounds_toArray, List.set_cons_zero, List.set_cons_succ])
      refine wpAnyH_take (i := 7) (oi := { dst := some 72, op := Go.Op.nilCheck (Go.Operand.tmp 71), type := 0, pos := "echo.go:69", after := #[{ on := 6, ground := Go.Ground.data }], guard := none }) (v := ?_) rfl (by kernel_rfl) (by kernel_rfl) (by kernel_rfl) (fun _ _ _ h => h) (Or.inl ⟨by rfl, ?_⟩) (by assumption) ?_
      rotate_left 1
      · intro w hSw; (try dsimp only at hSw); go_simp; try with_reducible rfl
      (try simp only [Act.put, List.setIfInBounds_toArray, List.set_cons_zero, List.set_cons_succ])
      refine wpAnyH_take (i := 8) (oi := { dst := some 73, op := Go.Op.fieldAddr 59 (Go.Operand.tmp 72) 0, type := 0, pos := "echo.go:69", after := #[{ on := 7, ground := Go.Ground.data }], guard := none }) (v := ?_) rfl (by kernel_rfl) (by kernel_rfl) (by kernel_rfl) (fun _ _ _ h => h) (Or.inl ⟨by rfl, ?_⟩) (by assumption) ?_
      rotate_left 1
      · intro w hSw; (try dsimp only at hSw); go_simp; try with_reducible rfl
      (try simp only [Act.put, List.setIfInBounds_toArray, List.set_cons_zero, List.set_cons_succ])
      refine wpAnyH_take (i := 9) (oi := { dst := some 74, op := Go.Op.load 56 (Go.Operand.tmp 73), type := 56, pos := "echo.go:69", after := #[{ on := 8, ground := Go.Ground.data }], guard := none }) (v := ?_) rfl (by kernel_rfl) (by kernel_rfl) (by kernel_rfl) (fun _ _ _ h => h) (Or.inl ⟨by rfl, ?_⟩) (by assumption) ?_
      rotate_left 1
      · intro w hSw; (try dsimp only at hSw); go_simp; try with_reducible rfl
      (try simp only [Act.put, List.setIfInBounds_toArray, List.set_cons_zero, List.set_cons_succ])
      refine wpAnyH_take (i := 10) (oi := { dst := some 75, op := Go.Op.indexAddr 38 (Go.Operand.tmp 13) (Go.Operand.const (Go.Value.int Go.IntKind.i64 1)), type := 0, pos := "echo.go:69", after := #[], guard := none }) (v := ?_) rfl (by kernel_rfl) (by kernel_rfl) (by kernel_rfl) (fun _ _ _ h => h) (Or.inl ⟨by rfl, ?_⟩) (by assumption) ?_
      rotate_left 1
      · intro w hSw; (try dsimp only at hSw); go_simp; try with_reducible rfl
      (try simp only [Act.put, List.setIfInBounds_toArray, List.set_cons_zero, List.set_cons_succ])
      refine wpAnyH_take (i := 11) (oi := { dst := some 76, op := Go.Op.load 3 (Go.Operand.tmp 75), type := 3, pos := "echo.go:69", after := #[{ on := 10, ground := Go.Ground.data }], guard := none }) (v := ?_) rfl (by kernel_rfl) (by kernel_rfl) (by kernel_rfl) (fun _ _ _ h => h) (Or.inl ⟨by rfl, ?_⟩) (by assumption) ?_
      rotate_left 1
      · intro w hSw; (try dsimp only at hSw); go_simp; try with_reducible rfl
      (try simp only [Act.put, List.setIfInBounds_toArray, List.set_cons_zero, List.set_cons_succ])
      refine wpAnyH_take (i := 12) (oi := { dst := some 77, op := Go.Op.indexAddr 56 (Go.Operand.tmp 74) (Go.Operand.tmp 76), type := 0, pos := "echo.go:69", after := #[{ on := 9, ground := Go.Ground.data }, { on := 11, ground := Go.Ground.data }], guard := none }) (v := ?_) rfl (by kernel_rfl) (by kernel_rfl) (by kernel_rfl) (fun _ _ _ h => h) (Or.inl ⟨by rfl, ?_⟩) (by assumption) ?_
      rotate_left 1
      · intro w hSw; (try dsimp only at hSw); go_simp; try with_reducible rfl
      (try simp only [Act.put, List.setIfInBounds_toArray, List.set_cons_zero, List.set_cons_succ])
      refine wpAnyH_take (i := 13) (oi := { dst := some 78, op := Go.Op.load 23 (Go.Operand.tmp 77), type := 23, pos := "echo.go:69", after := #[{ on := 12, ground := Go.Ground.data }], guard := none }) (v := ?_) rfl (by kernel_rfl) (by kernel_rfl) (by kernel_rfl) (fun _ _ _ h => h) (Or.inl ⟨by rfl, ?_⟩) (by assumption) ?_
      rotate_left 1
      · intro w hSw; (try dsimp only at hSw); go_simp; try with_reducible rfl
      (try simp only [Act.put, List.setIfInBounds_toArray, List.set_cons_zero, List.set_cons_succ])
      refine wpAnyH_take (i := 14) (oi := { dst := some 79, op := Go.Op.indexAddr 38 (Go.Operand.tmp 13) (Go.Operand.const (Go.Value.int Go.IntKind.i64 0)), type := 0, pos := "echo.go:69", after := #[], guard := none }) (v := ?_) rfl (by kernel_rfl) (by kernel_rfl) (by kernel_rfl) (fun _ _ _ h => h) (Or.inl ⟨by rfl, ?_⟩) (by assumption) ?_
      rotate_left 1
      · intro w hSw; (try dsimp only at hSw); go_simp; try with_reducible rfl
      (try simp only [Act.put, List.setIfInBounds_toArray, List.set_cons_zero, List.set_cons_succ])
      refine wpAnyH_take (i := 15) (oi := { dst := some 80, op := Go.Op.load 3 (Go.Operand.tmp 79), type := 3, pos := "echo.go:69", after := #[{ on := 14, ground := Go.Ground.data }], guard := none }) (v := ?_) rfl (by kernel_rfl) (by kernel_rfl) (by kernel_rfl) (fun _ _ _ h => h) (Or.inl ⟨by rfl, ?_⟩) (by assumption) ?_
      rotate_left 1
      · intro w hSw; (try dsimp only at hSw); go_simp; try with_reducible rfl
      (try simp only [Act.put, List.setIfInBounds_toArray, List.set_cons_zero, List.set_cons_succ])
      refine wpAnyH_ready (rs := [16]) (by kernel_rfl) (by simp) ?_
      refine AllReadyH.cons (o := { dst := some 81, op := Go.Op.buildSlice 23 1 #[(0, Go.Operand.tmp 80)], type := 23, pos := "echo.go:69", after := #[{ on := 15, ground := Go.Ground.data }], guard := none }) rfl (fun K hK => ?_) ?_
      · go_simp
        refine hK.out _ _ ?_ (fun hHeld => ?_)
        · (first | exact ⟨c0, cm0, cm1, cn⟩ | exact held_alloc (by assumption) | assumption)
        clear hK K
        (try simp only [Act.put, List.setIfInBounds_toArray, List.set_cons_zero, List.set_cons_succ])
        refine wpAnyH_ready (rs := [17]) (by kernel_rfl) (by simp) ?_
        refine AllReadyH.cons (o := { dst := some 82, op := Go.Op.call { callee := Go.Callee.builtin Go.Builtin.append, args := #[Go.Operand.tmp 78, Go.Operand.tmp 81], argTypes := #[23, 23] }, type := 23, pos := "echo.go:69", after := #[{ on := 13, ground := Go.Ground.data }, { on := 16, ground := Go.Ground.data }], guard := none }) rfl (fun K hK => ?_) ?_
        · (refine step_append_lies _ (by rfl) _ _ _ (by rfl) w2.heap.size 3 i0 _ 1 8 Try.underlying23 hi0 hz0 hz1 hz2 rfl (by omega) (.slice oa (N1 b).length cp) _ _ (by rfl) ((HOWN.out.alloc _).drew) ⟨wm.heap.size, 0, none⟩ 1 1 [.int .i64 a] (by rfl) (by rfl) (World.news_of_block (cs := #[.int .i64 a]) (t := 3) (fr := (0, 0)) (heap_alloc_new wm _)) (by simp [Value.oneCell']) (by omega) (by unfold maxLen; omega) (by omega) (by simp; omega) _ rfl ?_; intro gg cap2 wn hown1 hgrow hat hlt2; have hS1 := held_grown HOWN.out HROW.out.row HP.out HM.out c0 cm0 cm1 cn hgrow; have cn9 := hS1.2.2.2; have fz9 := frz_grown HOWN.out HROW.out.row hgrow)
          refine hK.out _ _ ?_ (fun hHeld => ?_)
          · (first | exact ⟨c0, cm0, cm1, cn⟩ | exact held_alloc (by assumption) | assumption)
          clear hK K
          (try simp only [Act.put, List.setIfInBounds_toArray, List.set_cons_zero, List.set_cons_succ])
          refine wpAnyH_done (by kernel_rfl) ?_ _
          show wpAny _ _ _ _ 2 _ _ _
          refine wpAny_take (i := 18) (oi := { dst := some 83, op := Go.Op.indexAddr 56 (Go.Operand.tmp 68) (Go.Operand.tmp 70), type := 0, pos := "echo.go:69", after := #[{ on := 3, ground := Go.Ground.data }, { on := 5, ground := Go.Ground.data }, { on := 0, ground := Go.Ground.phase }, { on := 1, ground := Go.Ground.phase }, { on := 2, ground := Go.Ground.phase }, { on := 3, ground := Go.Ground.phase }, { on := 4, ground := Go.Ground.phase }, { on := 5, ground := Go.Ground.phase }, { on := 6, ground := Go.Ground.phase }, { on := 7, ground := Go.Ground.phase }, { on := 8, ground := Go.Ground.phase }, { on := 9, ground := Go.Ground.phase }, { on := 10, ground := Go.Ground.phase }, { on := 11, ground := Go.Ground.phase }, { on := 12, ground := Go.Ground.phase }, { on := 13, ground := Go.Ground.phase }, { on := 14, ground := Go.Ground.phase }, { on := 15, ground := Go.Ground.phase }, { on := 16, ground := Go.Ground.phase }, { on := 17, ground := Go.Ground.phase }], guard := none }) (v := ?_) rfl (by kernel_rfl) (by kernel_rfl) (by kernel_rfl) (fun _ _ _ h => h) (Or.inl ⟨by rfl, ?_⟩) ?_
          rotate_left 1
          · intro w; go_simp; try with_reducible rfl
          (try simp only [Act.put, List.setIfInBounds_toArray, List.set_cons_zero, List.set_cons_succ])
          refine wpAny_ready (rs := [19]) (by kernel_rfl) (by simp) ?_
          refine AllReady.cons (o := { dst := none, op := Go.Op.store 23 (Go.Operand.tmp 83) (Go.Operand.tmp 82), type := 0, pos := "echo.go:69", after := #[{ on := 18, ground := Go.Ground.data }, { on := 17, ground := Go.Ground.data }, { on := 17, ground := Go.Ground.chain }, { on := 0, ground := Go.Ground.phase }, { on := 1, ground := Go.Ground.phase }, { on := 2, ground := Go.Ground.phase }, { on := 3, ground := Go.Ground.phase }, { on := 4, ground := Go.Ground.phase }, { on := 5, ground := Go.Ground.phase }, { on := 6, ground := Go.Ground.phase }, { on := 7, ground := Go.Ground.phase }, { on := 8, ground := Go.Ground.phase }, { on := 9, ground := Go.Ground.phase }, { on := 10, ground := Go.Ground.phase }, { on := 11, ground := Go.Ground.phase }, { on := 12, ground := Go.Ground.phase }, { on := 13, ground := Go.Ground.phase }, { on := 14, ground := Go.Ground.phase }, { on := 15, ground := Go.Ground.phase }, { on := 16, ground := Go.Ground.phase }, { on := 17, ground := Go.Ground.phase }], guard := none }) rfl (fun K hK => ?_) ?_
          · go_simp
            refine hK _ _ ?_
            clear hK K
            (try simp only [Act.put, List.setIfInBounds_toArray, List.set_cons_zero, List.set_cons_succ])
            refine wpAny_done (by kernel_rfl) ?_ _
            have h9 := HROW.out.step HKEEP.out (by omega) (by omega) hbn (W0 := (wm.alloc (.cells #[.int .i64 a] 3)).drew) (b := a) (H := (wm.alloc (.cells #[.int .i64 a] 3)).drew.heap.size) (fun q hq => Below.heap_alloc _ _ _ hq) (HKEEP.out.alloc hsz _).drew (by simp) (by simp) hown1 (by rw [HVA.out]; exact hgrow) (by rw [HVA.out]; exact hat)
            have HROW9 := Lib.hid h9.1
            have HKEEP9 := Lib.hid h9.2
            have HNN := Lib.hid (near_next HLK.out hab)
            clear h9
            go_wp2
            go_roundw
            case rel => exact ⟨k + 1, _, by omega, by go_num, by rw [HNN.out, ← HN.out, ← HN1.out]; exact HROW9.out, HKEEP9.out⟩
            case measure => simp [intOf]; omega
          exact AllReady.nil
        exact AllReadyH.nil
      exact AllReadyH.nil
    · obtain rfl : k = M.length := by omega
      rw [List.take_length] at HR
      obtain ⟨oa0, cp0, hV0, _⟩ : ∃ oa cp, (Value.slice (some ⟨nb, 0, none⟩) n n) = .slice oa n cp ∧ True := ⟨_, _, rfl, trivial⟩
      have HP0 := Lib.hid (HNEW.out.head.belowX HK.out hpl (by simp; omega))
      have c0 := HP0.out.cell (o := 0) rfl
      unfold sl at c0
      clear hV0
      go_wp2
      obtain ⟨wo, hwo⟩ : ∃ wo : World, wo = wr := ⟨_, rfl⟩
      subst hwo
      have hwbp := HNEW.out.b5
      have hfbp := HNEW.out.b6
      have d4 := HNEW.out.d4
      have d5 := HNEW.out.d5
      have d6 := HNEW.out.d6
      go_loopw [90] (fun i wr => ∃ (k : Nat) (P : Nat → List Nat), k ≤ n ∧ i = .int .i64 k ∧ (∀ i, (P i).Perm (nearOf M i)) ∧ Rows1 n nb w2.heap.size P V wr ∧ Blk wr wb (rowOf n (intsF fun i => if i < k then ((nearOf M i).length : Int) else 0)) 3 ∧ BelowX w2.heap.size [nb, wb] w2 wr) (fun i _ => n - (intOf i).toNat)
      case atStart =>
        refine ⟨0, nearOf M, Nat.zero_le _, rfl, fun i => List.Perm.refl _, HR.out, ?_, HK.out.mono (Nat.le_refl _) (by simp)⟩
        have := HNEW.out.wait.belowX HK.out (by omega) (by simp; omega)
        simpa using this
      case round =>
        clear HR HK HWB hws HP0 c0 hlt hk
        clear wo
        obtain ⟨k, P, hk, rfl, hperm, hrow, hwait, hkeep⟩ := hrel
        have HPERM := Lib.hid hperm
        have HROW := Lib.hid hrow
        have HWAIT := Lib.hid hwait
        have HKEEP := Lib.hid hkeep
        have hws := hkeep.size
        have hPl : ∀ i, (P i).length ≤ 15 := fun i => by rw [(hperm i).length_eq]; have := nearOf_len M i; omega
        have HPL := Lib.hid hPl
        have HP := Lib.hid (HNEW.out.head.belowX hkeep hpl (by simp; omega))
        clear hperm hrow hwait hkeep hPl
        by_cases hlt : k < n
        · obtain ⟨oa, cp, hVk, _⟩ := ownsRow_slice (HROW.out.own k hlt)
          have hsort := sort_near HROW.out hlt (by omega) hws (by have := HPL.out k; omega)
          rw [hVk] at hsort
          have cn := HROW.out.row.cell (rowOf_get (g := V) hlt)
          rw [hVk] at cn
          have HSORT := Lib.hid hsort
          clear hsort hVk
          go_wp2_with fail
          refine HSORT.out.mono ?_
          clear HSORT
          rintro e w4 ⟨rfl, q, hq, hrow4, hb4⟩
          have HROW4 := Lib.hid hrow4
          have HB4 := Lib.hid hb4
          have HQ := Lib.hid hq
          have hP4 := HP.out.below hb4 hpl
          have hW4 := HWAIT.out.below hb4 (by omega)
          have HP4 := Lib.hid hP4
          have HW4 := Lib.hid hW4
          have c2 := hP4.cell (o := 2) rfl
          have cw := hW4.cell (rowOf_get (g := intsF fun i => if i < k then ((nearOf M i).length : Int) else 0) hlt)
          have fw := hW4.frozen
          unfold sl at c2
          unfold intsF at cw
          clear hrow4 hb4 hq hP4 hW4 cn
          go_wp2
          go_roundw
          case rel =>
            refine ⟨k + 1, upL P k q, by omega, by go_num, fun i => ?_, ?_, ?_, ?_⟩
            · unfold upL
              split
              · next e => subst e; exact HQ.out.trans (HPERM.out i)
              · exact HPERM.out i
            · exact HROW4.out.set_ne (by omega) (by omega)
            · have h9 := HW4.out.set k (.int .i64 ((P k).length : Nat))
              rw [intsF_set] at h9
              rw [rowOf_congr (g' := intsF (upI (fun i => if i < k then ((nearOf M i).length : Int) else 0) k ((P k).length : Nat)))]
              · exact h9
              · intro i hi
                unfold intsF upI
                dsimp only
                by_cases e : i = k
                · subst e; rw [if_pos rfl, if_pos (by omega), (HPERM.out i).length_eq]
                · rw [if_neg e]
                  by_cases e2 : i < k
                  · rw [if_pos e2, if_pos (by omega)]
                  · rw [if_neg e2, if_neg (by omega)]
            · exact (HKEEP.out.trans (.of HB4.out)).setCell (.inr (by simp)) _
          case measure => simp [intOf]; omega
        · obtain rfl : n = k := by omega
          have hwt : Blk wr wb (rowOf n (intsF fun i => ((P i).length : Int))) 3 := by
            have := HWAIT.out
            rw [rowOf_congr (g' := intsF fun i => ((P i).length : Int)) (fun i hi => by unfold intsF; dsimp only; rw [if_pos hi, (HPERM.out i).length_eq])] at this
            exact this
          have HW := Lib.hid (wave_of_rows HROW.out HP.out hwt (HNEW.out.frm.belowX HKEEP.out (by omega) (by simp; omega)) hpl (by omega) (by omega))
          have HPL2 : Hid (Places p nb wb fb wr.heap.size) := Lib.hid ⟨by omega, by omega, by omega, by omega, by omega, by omega, by omega, d4, d5, d6⟩
          have HN := Lib.hid (net HG.out HPERM.out)
          have hbw1 : Below w1.heap.size w1 wr := HNEW.out.below.trans (HKEEP.out.below (by omega) (by simp; have := HNEW.out.b2; omega))
          have HBW1 := Lib.hid hbw1
          have hwx2 := HNEW.out.b2
          have hwx3 := HNEW.out.b3
          have hst : start < n := by have := HOK.out.s1; omega
          clear hwt hbw1 HWAIT HKEEP HROW HP
          generalize hBB : wr.heap.size = base at HW HPL2
          have HBB := Lib.hid hBB
          clear hBB
          obtain ⟨x0, x2, x3, x4⟩ := HW.out.cells
          have xf := HW.out.frm.cell (rowOf_get (g := intsF (start0 P).frm) hst)
          have ff := HW.out.frm.frozen
          obtain ⟨Vn, hVn, hVc⟩ := HW.out.near
          have xn := hVn.cell (rowOf_get (g := fun i => .slice (Vn i).1 (P i).length (Vn i).2) hst)
          have hone : ∀ va, (Vn start).1 = va → OneAt wr va base [p, wb, fb] (P start) := fun va e => e ▸ hVc start hst
          have HVC := Lib.hid (hone _ rfl)
          clear hone
          have y1 := HPL2.out.d1
          have y1' := Ne.symm y1
          have y3 := HPL2.out.d3
          have y3' := Ne.symm y3
          have d5' := Ne.symm d5
          generalize (Vn start).1 = va at xn HVC
          generalize (Vn start).2 = vc at xn
          unfold sl at x0 x2 x3
          unfold intsF at xf
          have hpl15 := HPL.out start
          have hpb := HPL2.out.lp
          clear hVn hVc hlt hk
          go_wp2
          refine gen_world (P := Code.wp Try.prog _ _ _) (Q := fun W => Wave W p nb wb fb n base P { start0 P with frm := upI (fun _ => -1) start (-2) } ∧ Below w1.heap.size w1 W ∧ OneAt W va base [p, wb, fb] (P start)) _ ⟨HW.out.store_frm HPL2.out start (-2), HBW1.out.setCell (by simp; omega) _, HVC.out.later ((BelowX.refl _ _ _).setCell (.inr (by simp)) _)⟩ ?_
          intro w3 hI
          have HI := Lib.hid hI
          clear hI x0 x2 x3 x4 xf ff xn HW HBW1 HVC y1 y1' y3 y3' d5' HBB hws
          clear wr
          go_loopw [120] (fun i wr => ∃ k : Nat, k ≤ (P start).length ∧ i = .int .i64 k ∧ Wave wr p nb wb fb n base P { start0 P with frm := upI (fun _ => -1) start (-2), way := ((P start).take k).map fun j => (start, j), sent := k } ∧ Below w1.heap.size w1 wr ∧ OneAt wr va base [p, wb, fb] (P start)) (fun i _ => (P start).length - (intOf i).toNat)
          case atStart => exact ⟨0, Nat.zero_le _, rfl, by simpa [start0] using HI.out.1, HI.out.2⟩
          case round =>
            clear HI
            clear w3
            obtain ⟨k, hk, rfl, hwv, hbw, hone⟩ := hrel
            have HW := Lib.hid hwv
            have HBW1 := Lib.hid hbw
            have HONE := Lib.hid hone
            clear hwv hbw hone
            by_cases hlt : k < (P start).length
            · obtain ⟨j, hjk⟩ : ∃ j, (P start)[k]? = some j := ⟨(P start)[k], List.getElem?_eq_getElem hlt⟩
              obtain ⟨gb, lb, rfl, hgb, hgx, hbk, hcl⟩ := HONE.out (by intro e; rw [e] at hlt; simp at hlt)
              have r0 := hbk.cell (hcl k j hjk)
              have HJK := Lib.hid hjk
              clear hbk hcl hjk hgb hgx
              go_wp2_with fail
              refine (send_any _ p base (sl nb n) (sl wb n) (sl fb n) (((P start).take k).map fun j => (start, j)) (k : Nat) start j HW.out.head (by simp; omega) (by omega) (by omega)).mono ?_
              rintro e w4 ⟨rfl, hh, hx, hfr⟩
              have HH := Lib.hid hh
              have HX := Lib.hid hx
              clear hh hx hfr r0
              go_wp2
              go_roundw
              case rel =>
                refine ⟨k + 1, by omega, by go_num, ?_, HBW1.out.trans (HX.out.below (by omega) (by simp; omega)), HONE.out.later (HX.out.mono (Nat.le_refl _) (by simp))⟩
                have e : (P start).take (k + 1) = (P start).take k ++ [j] := by rw [List.take_add_one, HJK.out]; rfl
                rw [e, List.map_append]
                exact HW.out.sent HPL2.out HX.out (q := k + 1) HH.out
              case measure => simp [intOf]; omega
            · obtain rfl : k = (P start).length := by omega
              rw [List.take_length] at HW
              have hinit : Hid (Wave wr p nb wb fb n base P (ES.init P start)) := Lib.hid (by
                have e : ES.init P start = { start0 P with frm := upI (fun _ => -1) start (-2), way := (P start).map fun j => (start, j), sent := (P start).length } := by
                  unfold ES.init ES.sends start0
                  simp
                  rfl
                rw [e]; exact HW.out)
              clear HW HONE
              obtain ⟨i24, hi24, hz24, hs24, hb24⟩ := info_parts info24
              go_wp2
              obtain ⟨wo, hwo⟩ : ∃ wo : World, wo = wr := ⟨_, rfl⟩
              subst hwo
              go_loopw [18, 131] (fun cv i wr => ∃ (k : Nat) (s : ES) (J : List Nat) (R : List (Nat × Nat)) (cs : List Value), k ≤ O.length ∧ i = .int .i64 k ∧ s = (O.take k).foldl (ES.move P) (ES.init P start) ∧ Inv P (Adj M) start s J R ∧ Wave wr p nb wb fb n base P s ∧ Below w1.heap.size w1 wr ∧ wr.ownsRow w1.heap.size 24 1 cv k cs) (fun _ i _ => O.length - (intOf i).toNat)
              case atStart => exact ⟨0, _, _, _, [], Nat.zero_le _, rfl, rfl, Inv.init HN.out start, hinit.out, HBW1.out, World.ownsRow_nil _ _ _ _⟩
              case round =>
                clear hinit HBW1 hlt hk
                clear wo
                obtain ⟨k, s, J, R, cs, hk, rfl, hs, hinv, hwv, hbw, hcod⟩ := hrel
                have HS := Lib.hid hs
                have HINV := Lib.hid hinv
                have HW := Lib.hid hwv
                have HBW1 := Lib.hid hbw
                have hb60 : O.length ≤ 60 := HOK.out.m60
                obtain ⟨hbd1, hbd2⟩ := hinv.bound HG.out hst
                have hws1 := hbw.size
                obtain ⟨ca, cc, rfl, _⟩ := ownsRow_slice hcod
                have HCOD := Lib.hid hcod
                clear hs hinv hbw hcod
                by_cases hlt : k < O.length
                · obtain ⟨x, hxk⟩ : ∃ x, O[k]? = some x := ⟨O[k], List.getElem?_eq_getElem hlt⟩
                  obtain ⟨ob, ooff, rfl, hoc⟩ := HO.out (by intro e; rw [e] at hlt; simp at hlt)
                  have hr0 := hoc k x hxk
                  have hr1 : w.cell? ⟨ob, ooff + k, none⟩ = wr.cell? ⟨ob, ooff + k, none⟩ := by
                    have hlo := World.block_lt_of_cell? w _ hr0
                    exact (((HB.out.trans (HBW1.out.mono hww)).cell (p := ⟨ob, ooff + k, none⟩) hlo)).symm
                  have r0 := hr1 ▸ hr0
                  have HXK := Lib.hid hxk
                  clear hoc hr0 hr1 hxk
                  obtain ⟨v, hbp, hway⟩ := hwv.head.row
                  obtain ⟨vo, vcp, rfl, _⟩ := ownsRow_slice hway
                  have c1 := hbp.cell (o := 1) rfl
                  have HBP := Lib.hid hbp
                  have HWAY := Lib.hid hway
                  clear hbp hway hwv
                  have hfold : Hid ((O.take (k + 1)).foldl (ES.move P) (ES.init P start) = ES.move P s x) := Lib.hid (by
                    have e : O.take (k + 1) = O.take k ++ [x] := by rw [List.take_add_one, HXK.out]; rfl
                    rw [e, List.foldl_append, ← HS.out]; rfl)
                  by_cases hxv : x < 0 ∨ (s.way.length : Int) ≤ x
                  · have HM : Hid (ES.move P s x = s) := Lib.hid (by unfold ES.move; rw [if_pos hxv])
                    have hcode : ∀ v' w', w'.ownsRow w1.heap.size 24 1 v' (k + 1) (cs ++ [.int .i64 4]) → (wr.alloc (.cells [Value.int .i64 4].toArray 24)).grownBy w' (Value.slice ca k cc).ownBlock → Hid (Wave w' p nb wb fb n base P s ∧ Below w1.heap.size w1 w') := fun v' w' h1 h2 =>
                      Lib.hid ⟨HW.out.keep (fun b l T hT hb => (hb.alloc _).grown h2 (ownsRow_ne HCOD.out hb hT)) (by have := h2.size; simp at this; omega), owned_below HCOD.out HBW1.out (Nat.le_refl _) hws1 h2⟩
                    have HCODE := Lib.hid hcode
                    clear hcode
                    by_cases hx0 : x < 0
                    · clear hxv
                      go_wp2_with (at_builtin; refine wpList_append_one Try.underlying31 hi24 hz24 hs24 hb24 rfl HCOD.out [.int .i64 4] rfl rfl rfl rfl rfl rfl (by omega) (by omega) (by omega) hws1 ?_)
                      intro v' w9 hown9 hg9
                      have H9 := HCODE.out v' w9 hown9 hg9
                      have HOWN9 := Lib.hid hown9
                      clear hown9 hg9
                      go_wp2
                      go_roundw
                      case rel => exact ⟨k + 1, s, J, R, _, by omega, by go_num, by rw [hfold.out, HM.out], HINV.out, H9.out.1, H9.out.2, HOWN9.out⟩
                      case measure => simp [intOf]; omega
                    · have hx1 : (s.way.length : Int) ≤ x := by omega
                      clear hxv
                      go_wp2_with (at_builtin; refine wpList_append_one Try.underlying31 hi24 hz24 hs24 hb24 rfl HCOD.out [.int .i64 4] rfl rfl rfl rfl rfl rfl (by omega) (by omega) (by omega) hws1 ?_)
                      intro v' w9 hown9 hg9
                      have H9 := HCODE.out v' w9 hown9 hg9
                      have HOWN9 := Lib.hid hown9
                      clear hown9 hg9
                      go_wp2
                      go_roundw
                      case rel => exact ⟨k + 1, s, J, R, _, by omega, by go_num, by rw [hfold.out, HM.out], HINV.out, H9.out.1, H9.out.2, HOWN9.out⟩
                      case measure => simp [intOf]; omega
                  · obtain ⟨q, rfl⟩ : ∃ q : Nat, x = q := ⟨x.toNat, by omega⟩
                    have hq : q < s.way.length := by omega
                    obtain ⟨⟨f, t⟩, hft⟩ : ∃ m, s.way[q]? = some m := ⟨s.way[q], List.getElem?_eq_getElem hq⟩
                    have HM : Hid (ES.move P s q = ES.take P { s with way := s.way.eraseIdx q } f t) := Lib.hid (by
                      unfold ES.move
                      rw [if_neg hxv]
                      have e : s.way.getD (q : Int).toNat (0, 0) = (f, t) := by simp [List.getD, hft]
                      rw [e]
                      rfl)
                    obtain ⟨hf, ht⟩ := HINV.out.way_lt HG.out (List.mem_of_getElem? hft)
                    obtain ⟨hw1, _⟩ := HINV.out.wait_pos HN.out (List.mem_of_getElem? hft)
                    have hw2 : s.wait t ≤ 100 := by have := HINV.out.wait t; have := HPL.out t; omega
                    obtain ⟨hf1, hf2⟩ := HINV.out.frm_bound HG.out hst t
                    obtain ⟨J2, hinv2⟩ := HINV.out.take HN.out hft
                    have HINV2 := Lib.hid hinv2
                    obtain ⟨g, hvo, hgb, hgl, C, hC, hCl, hCn, hCm, hCt⟩ : ∃ g, vo = some ⟨g, 0, none⟩ ∧ base ≤ g ∧ g < wr.heap.size ∧ ∃ C, Blk wr g C 38 ∧ C.length = vcp * 2 ∧ s.way.length ≤ vcp ∧ vcp ≤ maxLen ∧ C.take (s.way.length * 2) = lks s.way := by
                      rcases HWAY.out.2 with ⟨_, h0⟩ | ⟨g, cap', cur, hv, hbg, hg, hn', hm', hsz, htk⟩
                      · omega
                      · simp at hv
                        obtain ⟨rfl, rfl⟩ := hv
                        have hbk : Blk wr g cur.toList 38 := by unfold Blk; simpa using hg
                        exact ⟨g, rfl, hbg, hbk.lt, cur.toList, hbk, by simpa using hsz, hn', hm', htk⟩
                    subst hvo
                    have z0 := hC.cell (o := q * 2) (v := .int .i64 (f : Nat)) (by
                      have h8 : (C.take (s.way.length * 2))[q * 2]? = some (Value.int .i64 ((f : Nat) : Int)) := by rw [hCt]; exact (lks_get hft).1
                      rw [List.getElem?_take, if_pos (by omega)] at h8; exact h8)
                    have z1 := hC.cell (o := q * 2 + 1) (v := .int .i64 (t : Nat)) (by
                      have h8 : (C.take (s.way.length * 2))[q * 2 + 1]? = some (Value.int .i64 ((t : Nat) : Int)) := by rw [hCt]; exact (lks_get hft).2
                      rw [List.getElem?_take, if_pos (by omega)] at h8; exact h8)
                    have hdel := delete_any (wr.alloc (.cells #[.int .i64 f, .int .i64 t] 38)) g vcp q (q + 1) base C s.way rfl (hC.alloc _) hCl hCn hCt hq hCm hgb
                    rw [show ((q + 1 : Nat) : Int) = (q : Int) + 1 by omega] at hdel
                    have HDEL := Lib.hid hdel
                    obtain ⟨mb, hmb⟩ : ∃ mb, mb = wr.heap.size := ⟨_, rfl⟩
                    have HMB := Lib.hid hmb
                    have hgm : g ≠ mb := by omega
                    have hpwr := HBP.out.lt
                    clear hdel hC hCl hCt hCn hxv hinv2 hmb
                    go_wp2_with fail
                    refine HDEL.out.mono ?_
                    clear HDEL
                    rintro e w5 ⟨rfl, hown5, hx5⟩
                    have hP5 := (HBP.out.alloc (.cells #[.int .i64 f, .int .i64 t] 38)).belowX hx5 (by simp; omega) (by simp; omega)
                    have hM5 := (Blk.new wr [.int .i64 f, .int .i64 t] 38).belowX hx5 (by simp) (by simp; omega)
                    have e1 := hP5.cell (o := 1) rfl
                    have ef := hP5.frozen
                    have em0 := hM5.cell (o := 0) rfl
                    have em1 := hM5.cell (o := 1) rfl
                    have hpne : p ≠ wr.heap.size := by omega
                    have hpne' : wr.heap.size ≠ p := by omega
                    have hp5 := hP5.lt
                    have HW6 := Lib.hid (HW.out.off HPL2.out hgb hown5 hx5 hq)
                    have hfar5 : Hid (∀ b l, Blk wr b l 24 → Blk (w5.setCell ⟨p, 1, none⟩ (.slice (some ⟨g, 0, none⟩) (s.way.length - 1) vcp)) b l 24) := Lib.hid (fun b l hb => by
                      have hbg : b ≠ g := fun e => by
                        rcases HWAY.out.2 with ⟨_, h0⟩ | ⟨g', cap', cur, hv, _, hg', _⟩
                        · omega
                        · simp at hv
                          have h9 : Blk wr g cur.toList 38 := by unfold Blk; rw [hv.1]; simpa using hg'
                          have := (e ▸ hb).inj h9
                          exact absurd this (by decide)
                      have hbp2 : b ≠ p := fun e => absurd ((e ▸ hb).inj HBP.out) (by decide)
                      exact (((hb.alloc (.cells #[.int .i64 f, .int .i64 t] 38)).belowX hx5 (by have := hb.lt; simp; omega) (by simpa using hbg)).set_ne _ _ (by simpa using hbp2)))
                    have hbel5 : Hid (Below w1.heap.size w1 (w5.setCell ⟨p, 1, none⟩ (.slice (some ⟨g, 0, none⟩) (s.way.length - 1) vcp))) := Lib.hid (((HBW1.out.alloc hws1 _).trans (hx5.below (by simp; omega) (by simp; omega))).setCell (by simp; omega) _)
                    have HX5 := Lib.hid hx5
                    clear hP5 hM5 hown5 hx5 z0 z1 c1 r0
                    go_wp2_with fail
                    refine (take_any _ p nb wb fb n base P { s with way := s.way.eraseIdx q } f t HPL2.out HW6.out ht hw1 hw2 hf1 (by show s.frm t ≤ 100; omega) (by have := List.length_eraseIdx_le s.way q; show (s.way.eraseIdx q).length ≤ 900; omega) (by show s.sent ≤ 900; omega) (by have := HPL.out t; omega)).mono ?_
                    rintro e w7 ⟨rfl, hw7, hx7, hfar7⟩
                    have HW7 := Lib.hid hw7
                    have hcod7 : Hid (w7.ownsRow w1.heap.size 24 1 (.slice ca k cc) k cs) := Lib.hid (ownsRow_blk HCOD.out fun b l hb => by
                      have h6 := hfar5.out b l hb
                      refine hfar7 b l 24 (fun hm => ?_) (by decide) h6
                      simp at hm
                      rcases hm with rfl | rfl | rfl
                      · exact absurd (hb.inj HBP.out) (by decide)
                      · exact absurd (hb.inj HW.out.wait) (by decide)
                      · exact absurd (hb.inj HW.out.frm) (by decide))
                    have hbel7 : Hid (Below w1.heap.size w1 w7) := Lib.hid (hbel5.out.trans (hx7.below (by omega) (by simp; omega)))
                    have hws7 := hbel7.out.size
                    clear hw7 hx7 hfar7 e1 ef em0 em1 hp5 hpne hpne'
                    go_wp2_with (at_builtin; refine wpList_append_one Try.underlying31 hi24 hz24 hs24 hb24 rfl hcod7.out [.int .i64 0] rfl rfl rfl rfl rfl rfl (by omega) (by omega) (by omega) hws7 ?_)
                    intro v' w9 hown9 hg9
                    have H9 := Lib.hid (HW7.out.keep (w' := w9) (fun b l T hT hb => (hb.alloc _).grown hg9 (ownsRow_ne hcod7.out hb hT)) (by have := hg9.size; simp at this; omega))
                    have HB9 := Lib.hid (owned_below hcod7.out hbel7.out (Nat.le_refl _) hws7 hg9)
                    have HOWN9 := Lib.hid hown9
                    clear hown9 hg9
                    go_wp2
                    go_roundw
                    case rel => exact ⟨k + 1, _, J2, _, _, by omega, by go_num, by rw [hfold.out, HM.out], HINV2.out, H9.out, HB9.out, HOWN9.out⟩
                    case measure => simp [intOf]; omega
                · obtain rfl : k = O.length := by omega
                  rw [List.take_length] at HS
                  have hE9 := HE.out.below HBW1.out HEB.out
                  obtain ⟨x0, x2, x3, x4⟩ := HW.out.cells
                  have xf := HW.out.frm.cell (rowOf_get (g := intsF s.frm) hst)
                  have ff := HW.out.frm.frozen
                  unfold sl at x0 x2 x3
                  unfold intsF at xf
                  have HE9 := Lib.hid hE9
                  have hEw := HEB.out
                  clear hE9 hwv hlt hk
                  have y3 := HPL2.out.d3
                  have y3' := Ne.symm y3
                  go_upto_region 35 with fail
                  refine gen_world (P := Code.wp Try.prog _ _ _) (Q := fun W => Wave W p nb wb fb n base P { s with frm := upI s.frm start (-1) } ∧ Below w1.heap.size w1 W ∧ Blk W w.heap.size [.slice none 0 0, .slice none 0 0, .bool false, .int .i64 0] 33 ∧ W.ownsRow w1.heap.size 24 1 (.slice ca O.length cc) O.length cs) _ ⟨HW.out.store_frm HPL2.out start (-1), HBW1.out.setCell (by simp; omega) _, HE9.out.set_ne _ _ (by simp; omega), ownsRow_set_ne HCOD.out _ _ (fun e => by
                    rcases HCOD.out.2 with ⟨e1, _⟩ | ⟨g', cap', cur, e1, _, hg', _⟩
                    · rw [e1] at e; cases e
                    · rw [e1] at e
                      simp [Value.ownBlock] at e
                      subst e
                      have h9 : Blk wr g' cur.toList 24 := by unfold Blk; simpa using hg'
                      exact absurd (h9.inj HW.out.frm) (by decide))⟩ ?_
                  intro w8 hI
                  have HI := Lib.hid hI
                  obtain ⟨x0, x2, x3, x4⟩ := hI.1.cells
                  have xw := hI.1.wait.cell (rowOf_get (g := intsF s.wait) hst)
                  have e0 := hI.2.2.1.cell (o := 0) rfl
                  have e1 := hI.2.2.1.cell (o := 1) rfl
                  have e2 := hI.2.2.1.cell (o := 2) rfl
                  have e3 := hI.2.2.1.cell (o := 3) rfl
                  have ef := hI.2.2.1.frozen
                  unfold sl at x0 x2 x3
                  unfold intsF at xw
                  simp only at x4 xw
                  clear hI HW HBW1 HE9 HCOD x0 hws1
                  go_region
                  all_goals go_wp2
                  refine bodyPost_ret (v := .tuple #[.agg #[.slice ca O.length cc, .slice (some ⟨fb, 0, none⟩) n n, .bool (s.wait start == 0), .int .i64 (s.sent : Nat)], .int .i64 0]) (by simp [results, Try.results11, go_sem, e0, e1, e2, e3]) rfl ?_
                  have hs : s = play P start O := HS.out
                  refine ⟨P, ca, cc, fb, HPERM.out, by rw [← hs]; rfl, ?_, ?_⟩
                  · rw [← hs]
                    exact ((((HI.out.1.frm.set_ne _ _ (by simp; omega)).set_ne _ _ (by simp; omega)).set_ne _ _ (by simp; omega)).set_ne _ _ (by simp; omega)).drew
                  · have h8 : Below w.heap.size w w8 := HB.out.trans (HI.out.2.1.mono hww)
                    exact ((((h8.setCell (by simp) _).setCell (by simp) _).setCell (by simp) _).setCell (by simp) _).drew
end Go.Proofs.Ytaodgbeobdholaa.Ec
