/-
  The walk through echo's send.
-/
import Derived.Test.YtaodgbeobdholaaMemX
import Derived.Test.YtaodgbeobdholaaEchoLaw
import Derived.Lib.Hide
import Derived.Outline
namespace Go.Proofs.Ytaodgbeobdholaa.Ec
open Go Go.RowKit Mem

def lk (l : Nat × Nat) : List Value := [.int .i64 ((l.1 : Nat) : Int), .int .i64 ((l.2 : Nat) : Int)]
def lks (W : List (Nat × Nat)) : List Value := W.flatMap lk
theorem lks_snoc (W : List (Nat × Nat)) (l : Nat × Nat) : lks (W ++ [l]) = lks W ++ lk l := by simp [lks]
theorem info38 : (Try.prog.info? 38).map (fun i => (i.zero, i.size, i.bytes)) = some (some (.agg #[.int .i64 0, .int .i64 0]), 2, 16) := by kernel_rfl
/-- the head of a wave: its five fields -/
structure Head (w : World) (p base : Nat) (nv wv fv : Value) (W : List (Nat × Nat)) (sent : Int) : Prop where
  row : ∃ v, Blk w p [nv, v, wv, fv, .int .i64 sent] 59 ∧ w.ownsRow base 38 2 v W.length (lks W)
  le : base ≤ w.heap.size
  lt : p < base

/-- blocks of other things than pairs, but for some, are as they were -/
def Far (X : List Nat) (w w' : World) : Prop := ∀ b l T, b ∉ X → (38 : TypeId) ≠ T → Blk w b l T → Blk w' b l T
theorem Far.refl (X : List Nat) (w : World) : Far X w w := fun _ _ _ _ _ h => h
theorem Far.trans {X : List Nat} {a b c : World} (h : Far X a b) (k : Far X b c) : Far X a c := fun q l T hq hT hb => k q l T hq hT (h q l T hq hT hb)
theorem Far.mono {X X' : List Nat} {a b : World} (h : Far X a b) (hX : ∀ x ∈ X, x ∈ X') : Far X' a b := fun q l T hq hT hb => h q l T (fun hm => hq (hX q hm)) hT hb
theorem Far.setCell {X : List Nat} {a b : World} (h : Far X a b) {p : Addr} (hp : p.block ∈ X) (v : Value) : Far X a (b.setCell p v) := fun q l T hq hT hb => (h q l T hq hT hb).set_ne p v (by rintro rfl; exact hq hp)

set_option maxHeartbeats 2000000 in
theorem send_any (w : World) (p base : Nat) (nv wv fv : Value) (W : List (Nat × Nat)) (sent : Int) (f t : Nat) (hH : Head w p base nv wv fv W sent) (hW : W.length ≤ 1000) (h0 : 0 ≤ sent) (h1 : sent ≤ 1000) :
    Calls Try.prog 29 #[.pointer (some ⟨p, 0, none⟩), .int .i64 f, .int .i64 t] w fun e w' => e = .returned (.tuple #[]) ∧ Head w' p base nv wv fv (W ++ [(f, t)]) (sent + 1) ∧ BelowX base [p] w w' ∧ Far [p] w w' := by
  obtain ⟨⟨v, hb, hown⟩, hle, hlt⟩ := hH
  obtain ⟨oa, cap, rfl, hcap⟩ := ownsRow_slice hown
  obtain ⟨i0, hi0, hz0, hz1, hz2⟩ := info_parts info38
  have HO := Lib.hid hown
  have HB := Lib.hid hb
  have c1 := hb.cell (o := 1) rfl
  have c4 := hb.cell (o := 4) rfl
  have hf := hb.frozen
  have hpl := hb.lt
  clear hown hb
  go_enter Try.func29, Try.ntmps29
  go_wp2_with (at_builtin; refine wpList_append_one Try.underlying30 hi0 hz0 hz1 hz2 rfl HO.out [.int .i64 f, .int .i64 t] rfl rfl rfl rfl rfl rfl (by omega) (by omega) (by omega) hle ?_)
  intro v' w1 hown' hg
  have hb1 := (HB.out.alloc (.cells #[.int .i64 f, .int .i64 t] 38)).grown hg (ownsRow_ne HO.out HB.out (by decide))
  have hx1 : BelowX base [p] w w1 := .of (owned_below HO.out (Below.refl _ w) (Nat.le_refl _) hle hg)
  have hfar : Far [p] w w1 := fun b l T _ hT hbl => (hbl.alloc (.cells #[.int .i64 f, .int .i64 t] 38)).grown hg (ownsRow_ne HO.out hbl hT)
  have HFAR := Lib.hid hfar
  have hn1 : Value.ownBlock v' ≠ some p := ownsRow_ne hown' hb1 (by decide)
  obtain ⟨oa', cap', rfl, hcap'⟩ := ownsRow_slice hown'
  have HO1 := Lib.hid hown'
  have HB1 := Lib.hid hb1
  have HX1 := Lib.hid hx1
  have HN1 := Lib.hid hn1
  have d1 := hb1.cell (o := 1) rfl
  have d4 := hb1.cell (o := 4) rfl
  have hf1 := hb1.frozen
  have hpl1 := hb1.lt
  clear hown' hb1 hx1 hn1 hg hfar c1 c4 hf hpl
  go_wp2
  go_end0
  refine ⟨rfl, ⟨⟨.slice oa' (W.length + 1) cap', ?_, ?_⟩, ?_, hlt⟩, ?_, ?_⟩
  · exact (HB1.out.set 1 _).set 4 _
  · have h2 := ownsRow_set_ne (ownsRow_set_ne HO1.out ⟨p, 1, none⟩ (.slice oa' (W.length + 1) cap') HN1.out) ⟨p, 4, none⟩ (.int .i64 (sent + 1)) HN1.out
    rw [lks_snoc, List.length_append]
    exact h2
  · have := HX1.out.size; simp [World.setCell]; omega
  · exact (HX1.out.setCell (.inr (by simp)) _).setCell (.inr (by simp)) _
  · exact (HFAR.out.setCell (by simp) _).setCell (by simp) _
end Go.Proofs.Ytaodgbeobdholaa.Ec
