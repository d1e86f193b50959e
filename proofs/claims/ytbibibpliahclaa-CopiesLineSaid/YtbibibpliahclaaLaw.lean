/-
  The walk through the law CopiesLine itself.
-/
import Derived.Test.YtbibibpliahclaaPlay
import Derived.Test.YtbibibpliahclaaLine
import Derived.Test.YtbibibpliahclaaAllOps
import Derived.Test.YtbibibpliahclaaMem3
namespace Go.Proofs.Ytbibibpliahclaa.Cp
open Go Go.RowKit Mem

theorem played_good (n many : Nat) (w : World) (h1 : 1 ≤ n) (h6 : n ≤ 6) (hm : many ≤ 60) : Calls Try.prog 5 #[.int .i64 n, .int .i64 many] w fun e w' => e = .returned (.bool true) ∧ w = w' := by
  go_enter Try.func5, Try.ntmps5
  go_wp2
  go_ret
  exact ⟨by first | rfl | trivial, rfl⟩
theorem played_bad (n : Int) (many : Nat) (w : World) (h : n < 1 ∨ 6 < n ∨ (60 : Int) < many) : Calls Try.prog 5 #[.int .i64 n, .int .i64 many] w fun e w' => e = .returned (.bool false) ∧ w = w' := by
  by_cases h1 : n < 1
  · go_enter Try.func5, Try.ntmps5
    go_wp2
    go_ret
    exact ⟨by first | rfl | trivial, rfl⟩
  · by_cases h2 : 6 < n
    · go_enter Try.func5, Try.ntmps5
      go_wp2
      go_ret
      exact ⟨by first | rfl | trivial, rfl⟩
    · have h3 : (60 : Int) < many := by omega
      clear h
      go_enter Try.func5, Try.ntmps5
      go_wp2
      go_ret
      exact ⟨by first | rfl | trivial, rfl⟩

theorem law_bad (n : Int) (ao : Option Addr) (len cap : Nat) (w : World) (h : n < 1 ∨ 6 < n ∨ (60 : Int) < len) :
    Calls Try.prog 3 #[.int .i64 n, .slice ao len cap] w fun e w' => e = .returned (.bool true) ∧ Below w.heap.size w w' := by
  have H := Lib.hid h
  clear h
  go_enter Try.func3, Try.ntmps3
  go_wp2_with fail
  refine (play_bad n ao len cap _ H.out).mono ?_
  rintro e w1 ⟨rfl, hb⟩
  have HB := Lib.hid hb
  clear hb
  unfold NilS
  go_wp2_with fail
  refine (played_bad n len _ H.out).mono ?_
  rintro e w2 ⟨rfl, rfl⟩
  go_wp2
  go_ret
  exact ⟨by first | rfl | trivial, HB.out.alloc HB.out.size _⟩

/-- what is handed to line so far; all that is older is as it was -/
def LInv (wc : World) (A : List Op) (nv : Value) (W : World) : Prop := W.ownsRow wc.heap.size 35 5 nv A.length (A.flatMap OpCells) ∧ Below wc.heap.size wc W

theorem opcells_one (A : List Op) : ∀ u ∈ A.flatMap OpCells, u.oneCell' = true := by
  intro u hu
  obtain ⟨o, _, ho⟩ := List.mem_flatMap.1 hu
  simp [OpCells] at ho
  rcases ho with rfl | rfl | rfl | rfl | rfl <;> rfl

/-- What the inner loops read: the world at their beginning, the cells of the list of what was done. -/
theorem ops_cells {w : World} {B : Nat} {oa : Option Addr} {oc : Nat} {A : List Op} (h : w.ownsRow B 35 5 (.slice oa A.length oc) A.length (A.flatMap OpCells)) : OpsAt w oa A := by
  intro hne
  rcases h.2 with ⟨hv, hm⟩ | ⟨g, cap, cur, hv, _, hg, _⟩
  · exact absurd (List.eq_nil_of_length_eq_zero hm) hne
  · have hoa : oa = some ⟨g, 0, none⟩ := by
      simp at hv; exact hv.1
    refine ⟨g, 0, hoa, fun k o ho => ?_⟩
    have hc := h.cells (g := g) (by rw [hoa]; rfl)
    have key : ∀ j, j < 5 → ∀ u, (OpCells o)[j]? = some u → w.cell? ⟨g, 0 + k * 5 + j, none⟩ = some u := by
      intro j hj u hu
      have := hc (k * 5 + j) u ((flat_get OpCells 5 OpCells_len A k j o ho hj).trans hu)
      rw [Nat.zero_add]
      have e : (⟨g, 0, none⟩ : Addr).add (k * 5 + j) = ⟨g, k * 5 + j, none⟩ := by unfold Addr.add; split <;> simp_all
      rw [e] at this
      exact this
    exact ⟨key 0 (by omega) _ rfl, key 1 (by omega) _ rfl, key 2 (by omega) _ rfl, key 3 (by omega) _ rfl, key 4 (by omega) _ rfl⟩

set_option maxRecDepth 100000 in
set_option maxHeartbeats 4000000 in
theorem law_good (n : Nat) (ao : Option Addr) (cap : Nat) (L : List Move) (w : World) (h1 : 1 ≤ n) (h6 : n ≤ 6) (hl : L.length ≤ 60) (hM : MovesAt w ao L)
    (hplain : (allOps n L).length ≤ 8 → WfOps (allOps n L) ∧ Can (allOps n L) 0 (-1)) :
    Calls Try.prog 3 #[.int .i64 n, .slice ao L.length cap] w fun e w' => e = .returned (.bool true) ∧ Below w.heap.size w w' := by
  have HM := Lib.hid hM
  have HP := Lib.hid hplain
  have hfin := run_fine L (Fine.ofInit n) h6 0
  have hcl : (run (init n) L 0).2.length = L.length := run_codes _ _ _
  unfold allOps at HP
  clear hM hplain
  go_enter Try.func3, Try.ntmps3
  go_wp2_with fail
  refine (play_good n ao cap L _ h1 h6 hl HM.out).mono ?_
  rintro e w1 ⟨cv, ov, sv, vv, rfl, hres, hb⟩
  generalize run (init n) L 0 = R at HP hfin hcl hres
  obtain ⟨sF, cs⟩ := R
  dsimp only at HP hfin hcl
  have hop := hfin.ops
  obtain ⟨ca, cc, rfl⟩ := ownsRow_form hres.codes
  obtain ⟨oa, oc, rfl⟩ := ownsRow_form hres.ops
  obtain ⟨sa, sc, rfl⟩ := ownsRow_form hres.stamps
  obtain ⟨va, vc, rfl⟩ := ownsRow_form hres.vals
  try simp only at hcl
  have HCOD := Lib.hid hres.codes
  have HOPS := Lib.hid hres.ops
  dsimp only at HCOD HOPS
  generalize sF.ops = ops at HP hop HOPS
  simp only [hcl] at HCOD
  have HB := Lib.hid hb
  clear hb hres hfin
  go_wp2_with fail
  refine gen_world (P := fun W => Calls Try.prog 5 _ W _) (Q := fun W => Below w.heap.size w W ∧ Blk W w1.heap.size [.slice ca L.length cc, .slice oa ops.length oc, .slice sa n sc, .slice va n vc] 27 ∧
    W.ownsRow w.heap.size 35 5 (.slice oa ops.length oc) ops.length (ops.flatMap OpCells) ∧ W.ownsRow w.heap.size 28 1 (.slice ca L.length cc) L.length (cs.map (Value.int .i64))) _ ?_ ?_
  · exact ⟨HB.out.alloc HB.out.size _, Blk.new w1 [_, _, _, _] 27, HOPS.out.alloc _, HCOD.out.alloc _⟩
  have hcb : w.heap.size ≤ w1.heap.size := HB.out.size
  generalize w1.heap.size = cb at hcb ⊢
  clear HB HOPS HCOD w1
  intro wc ⟨hbc, hcBlk, hops, hcod⟩
  have hsz := hcBlk.lt
  refine (played_good n L.length _ h1 h6 hl).mono ?_
  rintro e w2 ⟨rfl, rfl⟩
  have y0 := hcBlk.cell (o := 0) rfl
  have y1 := hcBlk.cell (o := 1) rfl
  have y2 := hcBlk.cell (o := 2) rfl
  have y3 := hcBlk.cell (o := 3) rfl
  have HBC := Lib.hid hbc
  have HCB := Lib.hid hcBlk
  have HOPS := Lib.hid hops
  have HCOD := Lib.hid hcod
  clear hbc hcBlk hops hcod
  obtain ⟨i35, hi35, hz35, hs35, hb35⟩ := info_parts info35
  go_wp2_with (at_builtin; refine wpList_append_row rfl _ _ _ rfl wc.heap.size 35 i35 _ 5 40 Try.underlying24 hi35 hz35 hs35 hb35 rfl (by decide) (.slice (some ⟨wc.heap.size, 0, none⟩) 0 0) 0 [] rfl (empty_row wc (Nat.le_refl _) 35 5) w.heap.size (.slice oa ops.length oc) ops.length (ops.flatMap OpCells) rfl (HOPS.out.alloc _) (opcells_one ops) ?p3 ?p4 ?p5 ?p6)
  case p3 => unfold maxLen; omega
  case p4 => omega
  case p5 => simp
  case p6 =>
  intro v2 w2 hown2 hgrow2
  try rw [Nat.zero_add] at hown2
  try rw [List.nil_append] at hown2
  have hI : LInv wc ops v2 w2 := ⟨hown2, ((Below.refl _ _).alloc (Nat.le_refl _) _).grown hgrow2 (by simp) (by intro k hk; simp [Value.ownBlock] at hk; omega)⟩
  clear hown2 hgrow2 y0 y1 y2 y3
  have HCS := Lib.hid hcl
  clear hcl
  go_wp2
  go_loopw [7, 61] (fun nv i wr => ∃ j : Nat, j ≤ L.length ∧ i = .int .i64 j ∧ LInv wc (ops ++ pends ops cs L.length 0 (L.take j)) nv wr) (fun _ i _ => L.length - (intOf i).toNat)
  case atStart => exact ⟨0, Nat.zero_le _, rfl, by simpa [pends] using hI⟩
  case round =>
    clear hI
    obtain ⟨j, hj, rfl, hI⟩ := hrel
    obtain ⟨na, nc, hnv⟩ := ownsRow_form hI.1
    obtain ⟨an, han⟩ : ∃ an, an = (ops ++ pends ops cs L.length 0 (L.take j)).length := ⟨_, rfl⟩
    rw [← han] at hnv
    have HAN := Lib.hid han
    clear han
    subst hnv
    have hpl := pends_len ops cs L.length (L.take j) 0
    rw [List.length_take, Nat.min_eq_left hj] at hpl
    by_cases hlt : j < L.length
    · obtain ⟨m, hm⟩ : ∃ m, L[j]? = some m := ⟨L[j], List.getElem?_eq_getElem hlt⟩
      obtain ⟨code, hcode⟩ : ∃ c, cs[j]? = some c := ⟨cs[j]'(by rw [HCS.out]; exact hlt), List.getElem?_eq_getElem _⟩
      obtain ⟨b, off, hao, hcells⟩ := HM.out (by intro e; rw [e] at hlt; simp at hlt)
      obtain ⟨q0, q1, q2, q3⟩ := hcells j m hm
      have hbl := World.block_lt_of_cell? w _ q0
      have hww : Below w.heap.size w wr := HBC.out.trans (hI.2.mono HBC.out.size)
      have r0 := (hww.cell (p := ⟨b, off + j * 4, none⟩) hbl).trans q0
      have r1 := (hww.cell (p := ⟨b, off + j * 4 + 1, none⟩) hbl).trans q1
      have r2 := (hww.cell (p := ⟨b, off + j * 4 + 2, none⟩) hbl).trans q2
      have r3 := (hww.cell (p := ⟨b, off + j * 4 + 3, none⟩) hbl).trans q3
      obtain ⟨cg, hcg⟩ : ∃ g, ca = some ⟨g, 0, none⟩ := by
        rcases HCOD.out.2 with ⟨hv, hm0⟩ | ⟨g, cap, cur, hv, _, hg, _⟩
        · omega
        · simp at hv; exact ⟨g, hv.1⟩
      subst hcg
      have k0 : wr.cell? ⟨cg, j, none⟩ = some (.int .i64 code) := by
        have h1 := HCOD.out.cells (g := cg) rfl j (.int .i64 code) (by simp [hcode])
        have e : (⟨cg, 0, none⟩ : Addr).add j = ⟨cg, j, none⟩ := by unfold Addr.add; split <;> simp_all
        rw [e] at h1
        exact (hI.2.cell (p := ⟨cg, j, none⟩) (HCOD.out.lt cg rfl).2).trans h1
      have hcb2 := HCB.out.below hI.2 hsz
      have y0 := hcb2.cell (o := 0) rfl
      have y1 := hcb2.cell (o := 1) rfl
      have hlcb := hcb2.lt
      have hlcg := World.block_lt_of_cell? wr _ k0
      dsimp only at hlcg
      subst hao
      have hpe : pends ops cs L.length 0 (L.take (j + 1)) = pends ops cs L.length 0 (L.take j) ++ pendOf ops cs L.length j m := by
        rw [List.take_add_one, hm]
        have := pends_snoc ops cs L.length (L.take j) m 0
        rw [List.length_take, Nat.min_eq_left hj, Nat.zero_add] at this
        exact this
      have hcd : cs.getD j 0 = code := by simp [List.getD, hcode]
      have HI := Lib.hid hI
      have HPE := Lib.hid hpe
      have HCD := Lib.hid hcd
      clear q0 q1 q2 q3 hcells hww hcb2 hpe hI hcd hm hcode
      have skip : pendOf ops cs L.length j m = [] → ∀ wq : World, ∀ nv : Value, LInv wc (ops ++ pends ops cs L.length 0 (L.take j)) nv wq → LInv wc (ops ++ pends ops cs L.length 0 (L.take (j + 1))) nv wq := by
        intro h wq nv h2
        rw [HPE.out, h, List.append_nil]
        exact h2
      have SKIP := Lib.hid skip
      clear skip
      by_cases k1 : m.kind = 1
      · by_cases k2 : code = 0
        · by_cases k3 : m.val < 0
          · have hz : Hid (pendOf ops cs L.length j m = []) := Lib.hid (by unfold pendOf; rw [if_neg]; omega)
            go_wp2
            go_roundw
            case rel => exact ⟨j + 1, by omega, by go_num, SKIP.out hz.out _ _ ⟨HI.out.1.alloc _, HI.out.2.alloc HI.out.2.size _⟩⟩
            case measure => simp [intOf]; omega
          · go_wp2
            refine gen_world (P := Code.wp Try.prog _ _ _) (Q := fun W => LInv wc (ops ++ pends ops cs L.length 0 (L.take j)) (.slice na an nc) W ∧ Blk W wr.heap.size [.int .i64 1, .int .i64 m.frm, .int .i64 m.to, .int .i64 m.val] 33 ∧ wc.heap.size ≤ wr.heap.size) _ ?_ ?_
            · exact ⟨⟨HI.out.1.alloc _, HI.out.2.alloc HI.out.2.size _⟩, Blk.new wr [_, _, _, _] 33, HI.out.2.size⟩
            generalize wr.heap.size = mb at hlcb hlcg ⊢
            clear HI r0 r1 r2 r3 k0 y0 y1 hlcg hlcb
            clear wr
            intro w4 hI4
            go_loopw [10, 85] (fun d x wq => ∃ k : Nat, k ≤ ops.length ∧ d = .bool (doneIn (ops.take k) m.frm j) ∧ x = .int .i64 k ∧ LInv wc (ops ++ pends ops cs L.length 0 (L.take j)) (.slice na an nc) wq ∧ Blk wq mb [.int .i64 1, .int .i64 m.frm, .int .i64 m.to, .int .i64 m.val] 33 ∧ wc.heap.size ≤ mb) (fun _ x _ => ops.length - (intOf x).toNat)
            case atStart => exact ⟨0, Nat.zero_le _, rfl, rfl, hI4⟩
            case round =>
              clear hI4
              obtain ⟨k, hk, rfl, rfl, hI, hmb, hmbl⟩ := hrel
              by_cases hlt2 : k < ops.length
              · obtain ⟨o, ho⟩ : ∃ o, ops[k]? = some o := ⟨ops[k], List.getElem?_eq_getElem hlt2⟩
                obtain ⟨b2, off2, hao, hcells⟩ := ((ops_cells HOPS.out).later hI.2) (by intro e; rw [e] at hlt2; simp at hlt2)
                obtain ⟨q0, q1, q2, q3, q4⟩ := hcells k o ho
                subst hao
                have x0 := hmb.cell (o := 0) rfl
                have x1 := hmb.cell (o := 1) rfl
                have x2 := hmb.cell (o := 2) rfl
                have x3 := hmb.cell (o := 3) rfl
                have hlm := hmb.lt
                have hsn := doneIn_snoc ops k o ho m.frm j
                have HI := Lib.hid hI
                have HMB := Lib.hid hmb
                have HSN := Lib.hid hsn
                clear hI hmb hcells ho hsn
                cases hd : doneIn (ops.take k) m.frm j with
                | true =>
                  have HD := Lib.hid hd
                  clear hd
                  by_cases e1 : o.frm = m.frm
                  · have e2 : (o.frm == m.frm) = true := by simpa using e1
                    have HE := Lib.hid e1
                    clear e1
                    go_wp2
                    go_roundw
                    case rel => exact ⟨k + 1, by omega, by rw [HSN.out, HD.out]; rfl, by go_num, ⟨HI.out.1.alloc _, HI.out.2.alloc HI.out.2.size _⟩, HMB.out.alloc _, hmbl⟩
                    case measure => simp [intOf]; omega
                  · have e2 : (o.frm == m.frm) = false := by simpa using e1
                    have HE := Lib.hid e1
                    clear e1
                    go_wp2
                    go_roundw
                    case rel => exact ⟨k + 1, by omega, by rw [HSN.out, HD.out]; rfl, by go_num, ⟨HI.out.1.alloc _, HI.out.2.alloc HI.out.2.size _⟩, HMB.out.alloc _, hmbl⟩
                    case measure => simp [intOf]; omega
                | false =>
                  have HD := Lib.hid hd
                  clear hd
                  by_cases e1 : o.frm = m.frm
                  · have e2 : (o.frm == m.frm) = true := by simpa using e1
                    have HE := Lib.hid e1
                    clear e1
                    go_wp2
                    go_roundw
                    case rel => exact ⟨k + 1, by omega, by rw [HSN.out, HD.out, HE.out]; simp; rfl, by go_num, ⟨HI.out.1.alloc _, HI.out.2.alloc HI.out.2.size _⟩, HMB.out.alloc _, hmbl⟩
                    case measure => simp [intOf]; omega
                  · have e2 : (o.frm == m.frm) = false := by simpa using e1
                    have HE := Lib.hid e1
                    clear e1
                    go_wp2
                    go_roundw
                    case rel => exact ⟨k + 1, by omega, by rw [HSN.out, HD.out]; simp [HE.out], by go_num, ⟨HI.out.1.alloc _, HI.out.2.alloc HI.out.2.size _⟩, HMB.out.alloc _, hmbl⟩
                    case measure => simp [intOf]; omega
              · obtain rfl : k = ops.length := by omega
                have hcb2 := HCB.out.below hI.2 hsz
                have y0 := hcb2.cell (o := 0) rfl
                have y1 := hcb2.cell (o := 1) rfl
                have hlcb := hcb2.lt
                have HI := Lib.hid hI
                have HMB := Lib.hid hmb
                have HI5 : Hid (LInv wc (ops ++ pends ops cs L.length 0 (L.take j)) (.slice na an nc) wr ∧ Blk wr mb [.int .i64 1, .int .i64 m.frm, .int .i64 m.to, .int .i64 m.val] 33) := Lib.hid ⟨hI, hmb⟩
                rw [List.take_length]
                clear hI hmb hcb2
                go_wp2
                go_loopw [13, 107] (fun d x wq => ∃ k : Nat, k ≤ ops.length ∧ d = .bool (seenIn (ops.take k) m.val) ∧ x = .int .i64 k ∧ LInv wc (ops ++ pends ops cs L.length 0 (L.take j)) (.slice na an nc) wq ∧ Blk wq mb [.int .i64 1, .int .i64 m.frm, .int .i64 m.to, .int .i64 m.val] 33) (fun _ x _ => ops.length - (intOf x).toNat)
                case atStart => exact ⟨0, Nat.zero_le _, rfl, rfl, HI5.out⟩
                case round =>
                  clear HI5 HI HMB y0 y1 hlcb
                  obtain ⟨k, hk, rfl, rfl, hI, hmb⟩ := hrel
                  by_cases hlt2 : k < ops.length
                  · obtain ⟨o, ho⟩ : ∃ o, ops[k]? = some o := ⟨ops[k], List.getElem?_eq_getElem hlt2⟩
                    obtain ⟨b2, off2, hao, hcells⟩ := ((ops_cells HOPS.out).later hI.2) (by intro e; rw [e] at hlt2; simp at hlt2)
                    obtain ⟨q0, q1, q2, q3, q4⟩ := hcells k o ho
                    subst hao
                    have x0 := hmb.cell (o := 0) rfl
                    have x1 := hmb.cell (o := 1) rfl
                    have x2 := hmb.cell (o := 2) rfl
                    have x3 := hmb.cell (o := 3) rfl
                    have hlm := hmb.lt
                    have hsn := seenIn_snoc ops k o ho m.val
                    have HI := Lib.hid hI
                    have HMB := Lib.hid hmb
                    have HSN := Lib.hid hsn
                    clear hI hmb hcells ho hsn
                    cases hd : seenIn (ops.take k) m.val with
                    | true =>
                      have HD := Lib.hid hd
                      clear hd
                      cases hw : o.wr with
                      | true =>
                        rw [hw] at q3
                        clear hw
                        go_wp2
                        go_roundw
                        case rel => exact ⟨k + 1, by omega, by rw [HSN.out, HD.out]; rfl, by go_num, ⟨HI.out.1.alloc _, HI.out.2.alloc HI.out.2.size _⟩, HMB.out.alloc _⟩
                        case measure => simp [intOf]; omega
                      | false =>
                        rw [hw] at q3
                        clear hw
                        go_wp2
                        go_roundw
                        case rel => exact ⟨k + 1, by omega, by rw [HSN.out, HD.out]; rfl, by go_num, ⟨HI.out.1.alloc _, HI.out.2.alloc HI.out.2.size _⟩, HMB.out.alloc _⟩
                        case measure => simp [intOf]; omega
                    | false =>
                      have HD := Lib.hid hd
                      clear hd
                      cases hw : o.wr with
                      | true =>
                        rw [hw] at q3
                        have HW := Lib.hid hw
                        clear hw
                        go_wp2
                        go_roundw
                        case rel => exact ⟨k + 1, by omega, by rw [HSN.out, HD.out, HW.out]; rfl, by go_num, ⟨HI.out.1.alloc _, HI.out.2.alloc HI.out.2.size _⟩, HMB.out.alloc _⟩
                        case measure => simp [intOf]; omega
                      | false =>
                        rw [hw] at q3
                        have HW := Lib.hid hw
                        clear hw
                        go_wp2
                        go_roundw
                        case rel => exact ⟨k + 1, by omega, by rw [HSN.out, HD.out, HW.out]; simp; rfl, by go_num, ⟨HI.out.1.alloc _, HI.out.2.alloc HI.out.2.size _⟩, HMB.out.alloc _⟩
                        case measure => simp [intOf]; omega
                  · obtain rfl : k = ops.length := by omega
                    have x0 := hmb.cell (o := 0) rfl
                    have x1 := hmb.cell (o := 1) rfl
                    have x2 := hmb.cell (o := 2) rfl
                    have x3 := hmb.cell (o := 3) rfl
                    have hlm := hmb.lt
                    have HI := Lib.hid hI
                    have HMB := Lib.hid hmb
                    rw [List.take_length]
                    clear hI hmb
                    cases hd : doneIn ops m.frm j with
                    | true =>
                      have hz : Hid (pendOf ops cs L.length j m = []) := Lib.hid (by unfold pendOf; rw [if_neg]; rw [hd]; simp)
                      clear hd
                      go_wp2
                      go_roundw
                      case rel => exact ⟨j + 1, by omega, by go_num, SKIP.out hz.out _ _ HI.out⟩
                      case measure => simp [intOf]; omega
                    | false =>
                      cases he : seenIn ops m.val with
                      | false =>
                        have hz : Hid (pendOf ops cs L.length j m = []) := Lib.hid (by unfold pendOf; rw [if_neg]; rw [he]; simp)
                        clear hd he
                        go_wp2
                        go_roundw
                        case rel => exact ⟨j + 1, by omega, by go_num, SKIP.out hz.out _ _ HI.out⟩
                        case measure => simp [intOf]; omega
                      | true =>
                        have hz : Hid (pendOf ops cs L.length j m = [⟨m.frm, j, L.length + 1, true, m.val⟩]) := Lib.hid (by unfold pendOf; rw [if_pos]; exact ⟨k1, HCD.out.trans k2, by omega, hd, he⟩)
                        clear hd he
                        have hapl : Hid (an < maxLen) := Lib.hid (by rw [HAN.out, List.length_append]; unfold maxLen; omega)
                        have han2 : an ≤ 120 := by rw [HAN.out, List.length_append]; omega
                        have hown : Hid (wr.ownsRow wc.heap.size 35 5 (.slice na an nc) an ((ops ++ pends ops cs L.length 0 (L.take j)).flatMap OpCells)) := Lib.hid (by have := HI.out.1; rw [← HAN.out] at this; exact this)
                        have hwrs : wc.heap.size ≤ wr.heap.size := HI.out.2.size
                        go_wp2_with (at_builtin; refine wpList_append_own _ rfl _ _ _ rfl wc.heap.size 35 i35 _ 5 40 Try.underlying24 hi35 hz35 hs35 hb35 rfl (by decide) (.slice na an nc) an _ rfl (hown.out.alloc _) ⟨wr.heap.size, 0, none⟩ 1 1 (OpCells ⟨m.frm, j, L.length + 1, true, m.val⟩) ?p1 rfl ?p2 ?p3 ?p4 ?p5 ?p6 ?p7)
                        case p1 => first | rfl | (go_simp; rfl)
                        case p2 => exact World.news_of_block (cs := (OpCells ⟨m.frm, j, L.length + 1, true, m.val⟩).toArray) (heap_alloc_new wr _)
                        case p3 => intro u hu; exact opcells_one [⟨m.frm, j, L.length + 1, true, m.val⟩] u (by simpa using hu)
                        case p4 => unfold maxLen; omega
                        case p5 => omega
                        case p6 => simp; omega
                        case p7 =>
                          intro v5 w5 hown5 hgrow5 _
                          have hI5 : Hid (LInv wc (ops ++ pends ops cs L.length 0 (L.take (j + 1))) v5 w5) := by
                            refine Lib.hid ⟨?_, ?_⟩
                            · rw [HPE.out, hz.out, ← List.append_assoc, List.length_append, ← HAN.out, List.flatMap_append]
                              have e : List.flatMap OpCells [(⟨m.frm, j, L.length + 1, true, m.val⟩ : Op)] = OpCells ⟨m.frm, j, L.length + 1, true, m.val⟩ := by simp
                              rw [e, List.flatMap_append, List.append_assoc]
                              exact hown5
                            · exact (HI.out.2.alloc HI.out.2.size _).grown hgrow5 (by simp; omega) (by intro k hk; exact (hown.out.lt k hk).1)
                          clear hown5 hgrow5
                          go_wp2
                          go_roundw
                          case rel => exact ⟨j + 1, by omega, by go_num, hI5.out⟩
                          case measure => simp [intOf]; omega
        · have hz : Hid (pendOf ops cs L.length j m = []) := Lib.hid (by unfold pendOf; rw [if_neg]; rw [HCD.out]; simp [k2])
          go_wp2
          go_roundw
          case rel => exact ⟨j + 1, by omega, by go_num, SKIP.out hz.out _ _ ⟨HI.out.1.alloc _, HI.out.2.alloc HI.out.2.size _⟩⟩
          case measure => simp [intOf]; omega
      · have hz : Hid (pendOf ops cs L.length j m = []) := Lib.hid (by unfold pendOf; rw [if_neg]; simp [k1])
        go_wp2
        go_roundw
        case rel => exact ⟨j + 1, by omega, by go_num, SKIP.out hz.out _ _ ⟨HI.out.1.alloc _, HI.out.2.alloc HI.out.2.size _⟩⟩
        case measure => simp [intOf]; omega
    · obtain rfl : j = L.length := by omega
      rw [List.take_length] at hI HAN
      have HI := Lib.hid hI
      clear hI
      by_cases h8 : an ≤ 8
      · have hp := HP.out (by rw [← HAN.out]; exact h8)
        have hown := HI.out.1
        obtain ⟨hwf, hcan⟩ := hp
        generalize hA : ops ++ pends ops cs L.length 0 L = A at *
        rw [← HAN.out] at hown
        obtain rfl : an = A.length := HAN.out
        have hops := ops_cells hown
        have hle : A.length ≤ nc := by
          rcases hown.2 with ⟨hv, hm0⟩ | ⟨g, cap, cur, hv, _, hg, hle, _⟩
          · omega
          · simp at hv; omega
        have HOPS2 := Lib.hid hops
        have HWF := Lib.hid hwf
        have HCAN := Lib.hid hcan
        clear hown hops hwf hcan hA
        go_wp2_with fail
        refine (line_any HWF.out hle HCAN.out _ HOPS2.out).mono ?_
        rintro e w6 ⟨rfl, hb6⟩
        have HB6 := Lib.hid hb6
        clear hb6
        go_wp2
        go_ret
        exact ⟨by first | rfl | trivial, (HBC.out.trans (HI.out.2.mono HBC.out.size)).trans (HB6.out.mono (by have := HI.out.2.size; have := HBC.out.size; omega))⟩
      · go_wp2
        go_ret
        exact ⟨by first | rfl | trivial, HBC.out.trans (HI.out.2.mono HBC.out.size)⟩
end Go.Proofs.Ytbibibpliahclaa.Cp
