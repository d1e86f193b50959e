/-
  The walk through (*finder).waits.
-/
import Derived.Test.YtbibibpliahclaaLineSmall
import Derived.Test.YtbibibpliahclaaRep2
namespace Go.Proofs.Ytbibibpliahclaa.Cp
open Go Go.RowKit Mem

def OpsAt (w : World) (ao : Option Addr) (L : List Op) : Prop :=
  L ≠ [] → ∃ b off, ao = some ⟨b, off, none⟩ ∧ ∀ k o, L[k]? = some o → w.cell? ⟨b, off + k * 5, none⟩ = some (.int .i64 o.frm) ∧ w.cell? ⟨b, off + k * 5 + 1, none⟩ = some (.int .i64 o.beg) ∧
    w.cell? ⟨b, off + k * 5 + 2, none⟩ = some (.int .i64 o.fin) ∧ w.cell? ⟨b, off + k * 5 + 3, none⟩ = some (.bool o.wr) ∧ w.cell? ⟨b, off + k * 5 + 4, none⟩ = some (.int .i64 o.val)

theorem OpsAt.later {w w' : World} {ao : Option Addr} {L : List Op} (h : OpsAt w ao L) (hb : Below w.heap.size w w') : OpsAt w' ao L := by
  intro hne
  obtain ⟨b, off, e, hc⟩ := h hne
  refine ⟨b, off, e, fun k o ho => ?_⟩
  obtain ⟨c0, c1, c2, c3, c4⟩ := hc k o ho
  have hl := World.block_lt_of_cell? w _ c0
  exact ⟨(hb.cell (p := ⟨b, off + k * 5, none⟩) hl).trans c0, (hb.cell (p := ⟨b, off + k * 5 + 1, none⟩) hl).trans c1, (hb.cell (p := ⟨b, off + k * 5 + 2, none⟩) hl).trans c2, (hb.cell (p := ⟨b, off + k * 5 + 3, none⟩) hl).trans c3, (hb.cell (p := ⟨b, off + k * 5 + 4, none⟩) hl).trans c4⟩

def OpL (o : Op) : List Value := [.int .i64 o.frm, .int .i64 o.beg, .int .i64 o.fin, .bool o.wr, .int .i64 o.val]
def BehindV : Value := .func (.func 11) #[] #[]

theorem bit_zero (x t : Nat) (hx : x < 256) : (bits BinOp.and IntKind.u32 ((x : Int) / 2 ^ t) 1 == 0) = !bit x t := by
  have e : ((x : Int) / 2 ^ t) = ((x / 2 ^ t : Nat) : Int) := by simp
  have hl : x / 2 ^ t ≤ x := Nat.div_le_self _ _
  rw [e, show (1 : Int) = ((1 : Nat) : Int) from rfl, u32_and_nat _ _ (by omega) (by omega), Nat.and_one_is_mod]
  unfold bit
  rw [Bool.eq_iff_iff]
  simp
  omega

set_option maxRecDepth 100000 in
set_option maxHeartbeats 1000000 in
theorem waits_any {ao : Option Addr} {cap : Nat} {L : List Op} {fb : Nat} {mv : Value} (done : Nat) (o : Op) (w : World) (hL : OpsAt w ao L) (hl : L.length ≤ 8) (hd : done < 256) (hf : Blk w fb [.slice ao L.length cap, BehindV, mv] 61) :
    Calls Try.prog 18 #[.pointer (some ⟨fb, 0, none⟩), .int .u32 done, OpV o] w fun e w' => e = .returned (.bool (waitsB L done o)) ∧ Below w.heap.size w w' := by
  have f0 := hf.cell (o := 0) rfl
  have hfl := hf.lt
  have HL := Lib.hid hL
  have HF := Lib.hid hf
  clear hL hf
  unfold OpV
  go_enter Try.func18, Try.ntmps18
  go_wp2
  refine gen_world (P := Code.wp Try.prog _ _ _) (Q := fun W => Below w.heap.size w W ∧ Blk W w.heap.size (OpL o) 35) _ ?_ ?_
  · exact ⟨(Below.refl _ _).alloc (Nat.le_refl _) _, Blk.new w (OpL o) 35⟩
  intro w1 hI
  clear f0
  go_loopw [14] (fun i wr => ∃ k : Nat, k ≤ L.length ∧ i = .int .i64 k ∧ (∀ j, j < k → (!bit done j && behindB (L.getD j default) o) = false) ∧ Below w.heap.size w wr ∧ Blk wr w.heap.size (OpL o) 35) (fun i _ => L.length - (intOf i).toNat)
  case atStart => exact ⟨0, Nat.zero_le _, rfl, fun j hj => by omega, hI⟩
  case round =>
    clear hI
    obtain ⟨k, hk, rfl, hall, hb, hob⟩ := hrel
    by_cases hlt : k < L.length
    · obtain ⟨a, ha⟩ : ∃ a, L[k]? = some a := ⟨L[k], List.getElem?_eq_getElem hlt⟩
      obtain ⟨b, off, hao, hcells⟩ := HL.out (by intro e; rw [e] at hlt; simp at hlt)
      obtain ⟨q0, q1, q2, q3, q4⟩ := hcells k a ha
      have hbl := World.block_lt_of_cell? w _ q0
      have r0 := (hb.cell (p := ⟨b, off + k * 5, none⟩) hbl).trans q0
      have r1 := (hb.cell (p := ⟨b, off + k * 5 + 1, none⟩) hbl).trans q1
      have r2 := (hb.cell (p := ⟨b, off + k * 5 + 2, none⟩) hbl).trans q2
      have r3 := (hb.cell (p := ⟨b, off + k * 5 + 3, none⟩) hbl).trans q3
      have r4 := (hb.cell (p := ⟨b, off + k * 5 + 4, none⟩) hbl).trans q4
      clear q0 q1 q2 q3 q4 hcells
      subst hao
      have hz := bit_zero done k hd
      have hga : L.getD k default = a := by simp [List.getD, ha]
      have HGA := Lib.hid hga
      have HALL := Lib.hid hall
      have HB := Lib.hid hb
      have HOB := Lib.hid hob
      clear hga hall hb hob ha
      go_wp2_with fail
      refine gen_world (P := Code.wp Try.prog _ _ _) (Q := fun W => Below w.heap.size w W ∧ Blk W w.heap.size (OpL o) 35 ∧ Blk W wr.heap.size (OpL a) 35) _ ?_ ?_
      · exact ⟨HB.out.alloc (by have := HB.out.size; omega) _, HOB.out.alloc _, Blk.new wr (OpL a) 35⟩
      clear r0 r1 r2 r3 r4
      intro w2 ⟨hb2, hob2, hab2⟩
      generalize wr.heap.size = kb at hab2 ⊢
      have HB2 := Lib.hid hb2
      have HOB2 := Lib.hid hob2
      have HAB2 := Lib.hid hab2
      have f1 := (HF.out.below hb2 hfl).cell (o := 1) rfl
      have x0 := hab2.cell (o := 0) rfl
      have x1 := hab2.cell (o := 1) rfl
      have x2 := hab2.cell (o := 2) rfl
      have x3 := hab2.cell (o := 3) rfl
      have x4 := hab2.cell (o := 4) rfl
      have y0 := hob2.cell (o := 0) rfl
      have y1 := hob2.cell (o := 1) rfl
      have y2 := hob2.cell (o := 2) rfl
      have y3 := hob2.cell (o := 3) rfl
      have y4 := hob2.cell (o := 4) rfl
      have hkb := hab2.lt
      have hob := hob2.lt
      clear hb2 hob2 hab2
      unfold BehindV at f1
      cases hbit : bit done k with
      | true =>
        rw [hbit] at hz
        have HBIT := Lib.hid hbit
        clear hbit
        simp only [Bool.not_true] at hz
        go_quiet (fail)
        go_wp2
        go_roundw
        case rel =>
          refine ⟨k + 1, by omega, by go_num, fun j hj => ?_, below_drewN HB2.out _, HOB2.out.drewN _⟩
          rcases Nat.lt_or_ge j k with h | h
          · exact HALL.out j h
          · obtain rfl : j = k := by omega
            simp [HBIT.out]
        case measure => simp [intOf]; omega
      | false =>
        rw [hbit] at hz
        have HBIT := Lib.hid hbit
        clear hbit
        simp only [Bool.not_false] at hz
        go_region_held3 (fun w' => w'.cell? ⟨fb, 1, none⟩ = some (.func (.func 11) #[] #[]) ∧ w'.cell? ⟨kb, 0, none⟩ = some (.int .i64 a.frm) ∧ w'.cell? ⟨kb, 1, none⟩ = some (.int .i64 a.beg) ∧ w'.cell? ⟨kb, 2, none⟩ = some (.int .i64 a.fin) ∧
            w'.cell? ⟨kb, 3, none⟩ = some (.bool a.wr) ∧ w'.cell? ⟨kb, 4, none⟩ = some (.int .i64 a.val) ∧ w'.cell? ⟨w.heap.size, 0, none⟩ = some (.int .i64 o.frm) ∧ w'.cell? ⟨w.heap.size, 1, none⟩ = some (.int .i64 o.beg) ∧
            w'.cell? ⟨w.heap.size, 2, none⟩ = some (.int .i64 o.fin) ∧ w'.cell? ⟨w.heap.size, 3, none⟩ = some (.bool o.wr) ∧ w'.cell? ⟨w.heap.size, 4, none⟩ = some (.int .i64 o.val))
          (first | exact ⟨f1, x0, x1, x2, x3, x4, y0, y1, y2, y3, y4⟩ | exact ⟨g1, u0, u1, u2, u3, u4, v0, v1, v2, v3, v4⟩ | go_keep)
          ((go_at_call 11; refine (behind_any a o _).mono ?_; rintro e w3 ⟨rfl, hb3⟩; have hb4 : Below w.heap.size w w3 := HB2.out.drew.trans (hb3.mono (by simp; omega)); have g1 := (HF.out.below hb4 hfl).cell (o := 1) rfl; have hk3 := HAB2.out.drew.below hb3 (by simpa using hkb); have ho3 := HOB2.out.drew.below hb3 (by simpa using hob); have u0 := hk3.cell (o := 0) rfl; have u1 := hk3.cell (o := 1) rfl; have u2 := hk3.cell (o := 2) rfl; have u3 := hk3.cell (o := 3) rfl; have u4 := hk3.cell (o := 4) rfl; have v0 := ho3.cell (o := 0) rfl; have v1 := ho3.cell (o := 1) rfl; have v2 := ho3.cell (o := 2) rfl; have v3 := ho3.cell (o := 3) rfl; have v4 := ho3.cell (o := 4) rfl; have HB4 := Lib.hid hb4; have HO3 := Lib.hid ho3; clear hb3 hb4 hk3 ho3))
        cases hbeh : behindB a o with
        | true =>
          have HW : Hid (waitsB L done o = true) := by
            refine Lib.hid ?_
            unfold waitsB
            rw [List.any_eq_true]
            refine ⟨k, List.mem_range.2 hlt, ?_⟩
            rw [HGA.out, HBIT.out, hbeh]
            rfl
          clear hbeh
          go_wp2
          go_ret
          exact ⟨by rw [HW.out]; rfl, HB4.out⟩
        | false =>
          have HBEH := Lib.hid hbeh
          clear hbeh
          go_wp2
          go_roundw
          case rel =>
            refine ⟨k + 1, by omega, by go_num, fun j hj => ?_, HB4.out, HO3.out⟩
            rcases Nat.lt_or_ge j k with h | h
            · exact HALL.out j h
            · obtain rfl : j = k := by omega
              rw [HGA.out, HBEH.out]
              simp
          case measure => simp [intOf]; omega
    · have HW : Hid (waitsB L done o = false) := by
        refine Lib.hid ?_
        unfold waitsB
        rw [List.any_eq_false]
        intro j hj
        have := hall j (by have := List.mem_range.1 hj; omega)
        rw [this]
        simp
      have HB := Lib.hid hb
      clear hall hb hob
      go_wp2
      go_ret
      exact ⟨by rw [HW.out]; rfl, HB.out⟩
end Go.Proofs.Ytbibibpliahclaa.Cp
