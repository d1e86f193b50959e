/-
  The walk through run's Again, at an order that is one.
-/
import Derived.Test.YtaodgbeobdholaaPast
namespace Go.Proofs.Ytaodgbeobdholaa.Rn
open Go Go.RowKit Mem

def seenOf (l : List Nat) : Nat := l.foldl (fun s i => s ||| 2 ^ i) 0
theorem seenOf_snoc (l : List Nat) (i : Nat) : seenOf (l ++ [i]) = seenOf l ||| 2 ^ i := by simp [seenOf]
theorem seenOf_take (O : List Nat) (k i : Nat) (h : O[k]? = some i) : seenOf (O.take (k + 1)) = seenOf (O.take k) ||| 2 ^ i := by
  have : O.take (k + 1) = O.take k ++ [i] := by rw [List.take_add_one, h]; rfl
  rw [this, seenOf_snoc]
/-- each event once, and behind all that is ahead of it -/
structure GoodOrder (L : List Ev) (O : List Nat) : Prop where
  len : O.length = L.length
  one : ∀ k i, O[k]? = some i → i < L.length ∧ seenOf (O.take k) / 2 ^ i % 2 = 0 ∧ (pasts L).getD i 0 &&& (4294967295 - seenOf (O.take k)) = 0
/-- a slice value whose elements read as the numbers -/
def OrdAt (w : World) (oa : Option Addr) (O : List Nat) : Prop :=
  O ≠ [] → ∃ b off, oa = some ⟨b, off, none⟩ ∧ ∀ k i, O[k]? = some i → w.cell? ⟨b, off + k, none⟩ = some (.int .i64 (i : Nat))
theorem OrdAt.later {w w' : World} {oa : Option Addr} {O : List Nat} (h : OrdAt w oa O) (hb : Below w.heap.size w w') : OrdAt w' oa O := by
  intro hne
  obtain ⟨b, off, e, hc⟩ := h hne
  exact ⟨b, off, e, fun k i hi => (hb.cell (p := ⟨b, off + k, none⟩) (World.block_lt_of_cell? w _ (hc k i hi))).trans (hc k i hi)⟩

theorem shr_bit (x t : Nat) (hx : x < 2 ^ 30) (h : x / 2 ^ t % 2 = 0) : bits BinOp.and IntKind.u32 ((x : Int) / 2 ^ t) 1 = 0 := by
  have e : ((x : Int) / 2 ^ t) = ((x / 2 ^ t : Nat) : Int) := by simp
  have hl : x / 2 ^ t ≤ x := Nat.div_le_self _ _
  rw [e, show (1 : Int) = ((1 : Nat) : Int) from rfl, u32_and_nat _ _ (by omega) (by omega), Nat.and_one_is_mod, h]
  rfl

/-- the events that a run's check lets by -/
theorem chk_good {n : Int} (L : List Ev) : ∀ f, chk n f L = 0 → ∀ e ∈ L, 0 ≤ e.proc ∧ e.proc < n ∧ (e.kind ≠ 1 → 0 ≤ e.msg ∧ e.msg ≤ 20) := by
  induction L with
  | nil => intro f _ e he; cases he
  | cons a L ih =>
    intro f h e he
    rw [chk_cons] at h
    split at h
    · omega
    · split at h
      · omega
      · split at h
        · rcases List.mem_cons.1 he with rfl | he
          · refine ⟨by omega, by omega, fun h => by omega⟩
          · exact ih _ h e he
        · split at h
          · omega
          · split at h
            · omega
            · rcases List.mem_cons.1 he with rfl | he
              · refine ⟨by omega, by omega, fun _ => by omega⟩
              · exact ih _ h e he
theorem check_good {n : Int} {L : List Ev} (h : check n L = 0) : 1 ≤ n ∧ n ≤ 6 ∧ L.length ≤ 30 ∧ ∀ e ∈ L, 0 ≤ e.proc ∧ e.proc < n ∧ (e.kind ≠ 1 → 0 ≤ e.msg ∧ e.msg ≤ 20) := by
  unfold check at h
  split at h
  · omega
  · exact ⟨by omega, by omega, by omega, chk_good L _ h⟩

theorem psts_lt (L : List Ev) : ∀ (c s : Int → Nat) (i : Nat), (∀ x, c x < 2 ^ i) → (∀ x, s x < 2 ^ i) → ∀ P ∈ psts c s i L, P < 2 ^ (i + L.length) := by
  induction L with
  | nil => intro c s i _ _ P hP; simp [psts] at hP
  | cons e L ih =>
    intro c s i hc hs P hP
    have hp : pastOf c s e < 2 ^ i := by
      unfold pastOf
      split
      · exact Nat.or_lt_two_pow (hc _) (hs _)
      · exact hc _
    have hk : 2 ^ i < 2 ^ (i + 1) := Nat.pow_lt_pow_right (by omega) (by omega)
    have hn : pastOf c s e ||| 2 ^ i < 2 ^ (i + 1) := Nat.or_lt_two_pow (Nat.lt_trans hp hk) hk
    rw [psts_cons] at hP
    rw [List.length_cons, show i + (L.length + 1) = i + 1 + L.length by omega]
    rcases List.mem_cons.1 hP with rfl | hP
    · exact Nat.lt_of_lt_of_le hp (Nat.pow_le_pow_right (by omega) (by omega))
    · refine ih _ _ (i + 1) (fun x => ?_) (fun x => ?_) P hP
      · have := hc x; unfold upN; split <;> omega
      · have := hs x
        split
        · unfold upN; split <;> omega
        · omega
theorem pasts_lt (L : List Ev) (hl : L.length ≤ 30) (i : Nat) : (pasts L).getD i 0 < 4294967296 := by
  rcases Nat.lt_or_ge i (pasts L).length with h | h
  · have h1 := psts_lt L (fun _ => 0) (fun _ => 0) 0 (fun _ => by simp) (fun _ => by simp) ((pasts L).getD i 0) (by
      have : (pasts L).getD i 0 = (pasts L)[i] := by simp [List.getD, h]
      rw [this]; exact List.getElem_mem h)
    have h2 : 2 ^ (0 + L.length) ≤ 2 ^ 30 := Nat.pow_le_pow_right (by omega) (by omega)
    omega
  · have : (pasts L).getD i 0 = 0 := by simp [List.getD, h]
    omega

set_option maxRecDepth 100000 in
set_option maxHeartbeats 2000000 in
theorem again_good (n : Int) (ao oa : Option Addr) (cap oc : Nat) (L : List Ev) (O : List Nat) (w : World) (hc : check n L = 0) (hG : GoodOrder L O) (hL : EvsAt w ao L) (hO : OrdAt w oa O) :
    Calls Try.prog 10 #[.int .i64 n, .slice ao L.length cap, .slice oa O.length oc] w fun e w' => e = .returned (.tuple #[.bool true, .int .i64 0]) ∧ Below w.heap.size w w' := by
  obtain ⟨h1, h6, hl, hp⟩ := check_good hc
  have hol := hG.len
  have HL := Lib.hid hL
  have HO := Lib.hid hO
  have HG := Lib.hid hG
  have HP := Lib.hid hp
  have HC := Lib.hid hc
  clear hL hO hG hp hc
  go_enter Try.func10, Try.ntmps10
  go_wp2_with fail
  refine (check_any n ao cap L _ HL.out).mono ?_
  rintro e w1 ⟨rfl, hb1⟩
  rw [HC.out]
  have HB1 := Lib.hid hb1
  clear hb1
  go_wp2_with fail
  obtain ⟨m, rfl⟩ : ∃ m : Nat, n = m := ⟨n.toNat, by omega⟩
  refine (past_any m ao cap L _ (by omega) (by omega) hl HP.out (HL.out.later HB1.out)).mono ?_
  rintro e w2 ⟨b, rfl, hpb, hbl, hb2⟩
  have HB2 := Lib.hid (HB1.out.trans (hb2.mono HB1.out.size))
  have HPB := Lib.hid hpb
  have hpl := hpb.lt
  clear hb2 hpb HB1
  go_wp2
  go_loopw [10, 11, 30] (fun s ok i wr => ∃ k : Nat, k ≤ O.length ∧ s = .int .u32 (seenOf (O.take k) : Nat) ∧ seenOf (O.take k) < 2 ^ 30 ∧ ok = .bool true ∧ i = .int .i64 k ∧ wr = w2) (fun _ _ i _ => O.length - (intOf i).toNat)
  case atStart => exact ⟨0, Nat.zero_le _, rfl, by simp [seenOf], rfl, rfl, rfl⟩
  case round =>
    obtain ⟨k, hk, rfl, hs30, rfl, rfl, rfl⟩ := hrel
    by_cases hlt : k < O.length
    · obtain ⟨i, hi⟩ : ∃ i, O[k]? = some i := ⟨O[k], List.getElem?_eq_getElem hlt⟩
      obtain ⟨g1, g2, g3⟩ := HG.out.one k i hi
      obtain ⟨ob, off, hao, hcells⟩ := (HO.out.later HB2.out) (by intro e; rw [e] at hlt; simp at hlt)
      have r0 := hcells k i hi
      subst hao
      have z0 : wr.cell? ⟨b, i, none⟩ = some (.int .u32 ((pasts L).getD i 0 : Nat)) := HPB.out.cell (rowOf_get (g := outsN (pasts L)) g1)
      have hst := seenOf_take O k i hi
      have hpi : Hid ((pasts L).getD i 0 < 4294967296) := Lib.hid (pasts_lt L hl i)
      generalize seenOf (O.take k) = S at hs30 g2 g3 hst ⊢
      generalize (pasts L).getD i 0 = P at z0 g3 hpi
      have hsb := shr_bit S i hs30 g2
      have han : bits BinOp.andNot IntKind.u32 (P : Int) (S : Int) = 0 := by rw [u32_andNot_nat _ _ hpi.out (by omega), g3]; rfl
      have hor := or_shl S i (by omega) (by omega)
      have HST := Lib.hid hst
      have h31 : Hid (S ||| 2 ^ i < 2 ^ 30) := Lib.hid (Nat.or_lt_two_pow hs30 (Nat.pow_lt_pow_right (by omega) (by omega)))
      clear g2 g3 hcells hi hst
      go_wp2
      go_roundw
      case rel => exact ⟨k + 1, by omega, by rw [HST.out], by rw [HST.out]; exact h31.out, by first | rfl | trivial, by go_num, by first | rfl | trivial⟩
      case measure => simp [intOf]; omega
    · go_wp2
      refine bodyPost_ret (v := .tuple #[.bool true, .int .i64 0]) (by simp [results, Try.results10, go_sem]) rfl ⟨rfl, HB2.out⟩
end Go.Proofs.Ytaodgbeobdholaa.Rn
