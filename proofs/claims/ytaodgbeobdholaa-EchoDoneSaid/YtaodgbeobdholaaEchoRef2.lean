/-
  The walks through linked, Bit and joined.
-/
import Derived.Test.YtaodgbeobdholaaEchoRef
import Derived.Test.YtaodgbeobdholaaEchoPlay
namespace Go.Proofs.Ytaodgbeobdholaa.Ec
open Go Go.RowKit Mem

/-- linked's answer -/
def LdEnd (n : Int) (L : List (Int × Int)) (start : Int) (m : Nat) (e : Ending) : Prop := ∃ b, e = .returned (.bool b) ∧ (b = true ↔ OkL n L start m)
set_option maxHeartbeats 4000000 in
set_option maxRecDepth 100000 in
theorem linked_any (n start : Int) (ao : Option Addr) (cap m : Nat) (L : List (Int × Int)) (w : World) (hcap : L.length ≤ cap) (hL : LinksAt w ao L) (hm : (m : Int) ≤ 9223372036854775807) :
    Calls Try.prog 12 #[.int .i64 n, .slice ao L.length cap, .int .i64 start, .int .i64 m] w fun e w' => LdEnd n L start m e ∧ Below w.heap.size w w' := by
  have HL := Lib.hid hL
  clear hL
  go_enter Try.func12, Try.ntmps12
  go_wp2_with fail
  refine (links_any n ao cap L _ HL.out).mono ?_
  rintro e w1 ⟨⟨r, rfl, hr⟩, hb⟩
  have HB := Lib.hid hb
  by_cases h1 : 1 ≤ n ∧ n ≤ 6 ∧ L.length ≤ 15 ∧ ∀ l ∈ L, GoodL n l
  · have hrt : (r == 0) = true := hr.2 h1
    have H1 := Lib.hid h1
    have h15 := h1.2.2.1
    clear hr hb h1
    go_wp2_with fail
    refine (twice_any ao cap L hcap h15 _ (HL.out.later HB.out)).mono ?_
    rintro e w2 ⟨⟨b, rfl, hbo⟩, hb2⟩
    have HB2 := Lib.hid (HB.out.trans (hb2.mono HB.out.size))
    by_cases h2 : OnceI L L.length
    · obtain rfl : b = false := by
        cases b with
        | false => rfl
        | true => exact absurd h2 (hbo.1 rfl)
      have H2 := Lib.hid h2
      clear hbo hb2 h2 hrt
      go_wp2_with fail
      refine (inside_one n start w2.heap.size _ ((Blk.new w2 [_] 3).cell rfl)).mono ?_
      rintro e w3 ⟨rfl, rfl⟩
      have HB3 := Lib.hid (HB2.out.alloc HB2.out.size (.cells #[.int .i64 start] 3))
      by_cases h3 : 0 ≤ start ∧ start < n
      · have hd : decide (0 ≤ start ∧ start < n) = true := decide_eq_true h3
        rw [hd]
        have H3 := Lib.hid h3
        clear h3 hd
        by_cases h4 : (m : Int) ≤ 60
        · go_wp2
          go_ret
          exact ⟨⟨true, rfl, fun _ => ⟨H1.out.1, H1.out.2.1, H1.out.2.2.1, by omega, H1.out.2.2.2, H3.out.1, H3.out.2, H2.out⟩, fun _ => rfl⟩, HB3.out⟩
        · have h5 : (60 : Int) < m := by omega
          have hd5 : decide ((m : Int) ≤ 60) = false := decide_eq_false h4
          clear h4
          go_wp2
          go_ret
          exact ⟨⟨false, rfl, fun h => (by cases h), fun h => absurd h.m60 (by omega)⟩, HB3.out⟩
      · have hd : decide (0 ≤ start ∧ start < n) = false := decide_eq_false h3
        rw [hd]
        have H3 := Lib.hid h3
        clear h3 hd
        go_wp2
        go_ret
        exact ⟨⟨false, rfl, fun h => (by cases h), fun h => absurd ⟨h.s0, h.s1⟩ H3.out⟩, HB3.out⟩
    · obtain rfl : b = true := hbo.2 h2
      have H2 := Lib.hid h2
      clear hbo hb2 h2 hrt
      go_wp2
      go_ret
      exact ⟨⟨false, rfl, fun h => (by cases h), fun h => absurd h.once H2.out⟩, HB2.out⟩
  · have hrf : (r == 0) = false := by
      cases hh : (r == 0) with
      | false => rfl
      | true => exact absurd (hr.1 hh) h1
    have H1 := Lib.hid h1
    clear hr hb h1
    go_wp2
    go_ret
    exact ⟨⟨false, rfl, fun h => (by cases h), fun h => absurd ⟨h.n1, h.n6, h.l15, h.good⟩ H1.out⟩, HB.out⟩

theorem bit_test (v i : Nat) (hv : v < 4294967296) (hi : i < 30) : (bits BinOp.and IntKind.u32 (v : Int) (2 ^ i % 4294967296) != 0) = v.testBit i := by
  have h2 : 2 ^ i < 2 ^ 30 := Nat.pow_lt_pow_right (by omega) hi
  have e : ((2 : Int) ^ i % 4294967296) = ((2 ^ i : Nat) : Int) := by
    rw [show ((2 : Int) ^ i) = ((2 ^ i : Nat) : Int) by simp]
    generalize 2 ^ i = y at h2
    omega
  rw [e, u32_and_nat _ _ hv (by omega)]
  cases hb : v.testBit i with
  | true =>
    have : (v &&& 2 ^ i) ≠ 0 := fun h0 => by
      have := congrArg (fun x => x.testBit i) h0
      simp [Nat.testBit_and, hb] at this
    simp; omega
  | false =>
    have : (v &&& 2 ^ i) = 0 := by
      apply Nat.eq_of_testBit_eq
      intro j
      rw [Nat.testBit_and, Nat.testBit_two_pow]
      by_cases hj : i = j
      · subst hj; simp [hb]
      · simp [hj]
    simp [this]
set_option maxHeartbeats 2000000 in
theorem bit_any (v i : Nat) (w : World) (hv : v < 4294967296) (hi : i < 30) :
    Calls Try.prog 15 #[.int .u32 v, .int .i64 i] w fun e w' => e = .returned (.bool (v.testBit i)) ∧ w' = w := by
  have HT := Lib.hid (bit_test v i hv hi)
  have h0 : (0 : Int) ≤ i := by omega
  have h1 : (i : Int) < 32 := by omega
  go_enter Try.func15, Try.ntmps15
  go_wp2
  go_ret
  exact ⟨congrArg (fun b => Ending.returned (.bool b)) HT.out, rfl⟩

theorem jn_lt {n : Nat} (M : List (Nat × Nat)) (hM : ∀ l ∈ M, l.1 < n ∧ l.2 < n) (v : Nat) (hv : v < 2 ^ n) : jn v M < 2 ^ n := by
  unfold jn
  induction M generalizing v with
  | nil => exact hv
  | cons l M ih =>
    rw [List.foldl_cons]
    refine ih (fun l hl => hM l (by simp [hl])) _ ?_
    have := hM l (by simp)
    split
    · exact Nat.or_lt_two_pow (Nat.or_lt_two_pow hv (Nat.pow_lt_pow_right (by omega) this.1)) (Nat.pow_lt_pow_right (by omega) this.2)
    · exact hv
theorem jns_lt {n : Nat} (M : List (Nat × Nat)) (hM : ∀ l ∈ M, l.1 < n ∧ l.2 < n) (v : Nat) (hv : v < 2 ^ n) (k : Nat) : jns M k v < 2 ^ n := by
  induction k with
  | zero => exact hv
  | succ k ih => exact jn_lt M hM _ ih
theorem jn_take (M : List (Nat × Nat)) (v k : Nat) (l : Nat × Nat) (h : M[k]? = some l) : jn v (M.take (k + 1)) = if (jn v (M.take k)).testBit l.1 = true ∨ (jn v (M.take k)).testBit l.2 = true then jn v (M.take k) ||| 2 ^ l.1 ||| 2 ^ l.2 else jn v (M.take k) := by
  have e : M.take (k + 1) = M.take k ++ [l] := by rw [List.take_add_one, h]; rfl
  rw [e]
  unfold jn
  rw [List.foldl_append]
  rfl

set_option maxHeartbeats 4000000 in
set_option maxRecDepth 100000 in
theorem joined_any (n start : Nat) (ao : Option Addr) (cap : Nat) (M : List (Nat × Nat)) (w : World) (h6 : n ≤ 6) (hs : start < n) (h15 : M.length ≤ 15) (hM : ∀ l ∈ M, l.1 < n ∧ l.2 < n) (hL : LinksAt w ao (castL M)) :
    Calls Try.prog 14 #[.int .i64 n, .slice ao M.length cap, .int .i64 start] w fun e w' => e = .returned (.int .u32 (jns M n (2 ^ start) : Nat)) ∧ Below w.heap.size w w' := by
  have HL := Lib.hid hL
  have HM := Lib.hid hM
  have hst : Hid (((2 : Int) ^ start % 4294967296) = ((jns M 0 (2 ^ start) : Nat) : Int)) := Lib.hid (by
    have h2 : 2 ^ start < 2 ^ 30 := Nat.pow_lt_pow_right (by omega) (by omega)
    show _ = ((2 ^ start : Nat) : Int)
    rw [show ((2 : Int) ^ start) = ((2 ^ start : Nat) : Int) by simp]
    generalize 2 ^ start = y at h2
    omega)
  have hlm : Hid ((castL M).length = M.length) := Lib.hid (by simp [castL])
  clear hL hM
  have h0 : (0 : Int) ≤ start := by omega
  go_enter Try.func14, Try.ntmps14
  go_wp2
  go_loopw [7, 8] (fun v i wr => ∃ k : Nat, k ≤ n ∧ i = .int .i64 k ∧ v = .int .u32 (jns M k (2 ^ start) : Nat) ∧ Below w.heap.size w wr) (fun _ i _ => n - (intOf i).toNat)
  case atStart => exact ⟨0, Nat.zero_le _, rfl, by rw [hst.out], Below.refl _ _⟩
  case round =>
    obtain ⟨k, hk, rfl, rfl, hb⟩ := hrel
    have HB := Lib.hid hb
    have hws := hb.size
    clear hb
    have hlt0 : Hid (jns M k (2 ^ start) < 2 ^ n) := Lib.hid (jns_lt M HM.out _ (Nat.pow_lt_pow_right (by omega) hs) k)
    by_cases hlt : k < n
    · have HJ : Hid (jns M (k + 1) (2 ^ start) = jn (jns M k (2 ^ start)) M) := Lib.hid rfl
      generalize jns M k (2 ^ start) = v0 at hlt0 HJ ⊢
      go_wp2
      obtain ⟨wo, hwo⟩ : ∃ wo : World, wo = wr := ⟨_, rfl⟩
      subst hwo
      go_loopw [7, 21] (fun v i wr => ∃ j : Nat, j ≤ M.length ∧ i = .int .i64 j ∧ v = .int .u32 (jn v0 (M.take j) : Nat) ∧ Below w.heap.size w wr) (fun _ i _ => M.length - (intOf i).toNat)
      case atStart => exact ⟨0, Nat.zero_le _, rfl, rfl, HB.out⟩
      case round =>
        clear HB hws
        clear wo
        obtain ⟨j, hj, rfl, rfl, hb⟩ := hrel
        have HB := Lib.hid hb
        have hws := hb.size
        clear hb
        by_cases hjl : j < M.length
        · obtain ⟨l, hlj⟩ : ∃ l, M[j]? = some l := ⟨M[j], List.getElem?_eq_getElem hjl⟩
          obtain ⟨a, b⟩ := l
          obtain ⟨han, hbn⟩ := HM.out (a, b) (List.mem_of_getElem? hlj)
          simp only at han hbn
          obtain ⟨bb, off, rfl, hc⟩ := (HL.out.later HB.out) (by intro e; rw [← hlm.out, e] at hjl; simp at hjl)
          obtain ⟨r0, r1⟩ := hc j _ (castL_get hlj)
          simp only at r0 r1
          have hv1 : Hid (jn v0 (M.take j) < 2 ^ n) := Lib.hid (jn_lt _ (fun l hl => HM.out l (List.mem_of_mem_take hl)) _ hlt0.out)
          have HT := Lib.hid (jn_take M v0 j (a, b) hlj)
          have hpw : Hid (2 ^ n ≤ 64) := Lib.hid (Nat.le_trans (Nat.pow_le_pow_right (by omega) h6) (by decide))
          generalize jn v0 (M.take j) = v at hv1 HT ⊢
          have hvb : v < 4294967296 := by have := hv1.out; have := hpw.out; omega
          clear hc hlj
          have h0a : (0 : Int) ≤ a := by omega
          have h0b : (0 : Int) ≤ b := by omega
          cases hta : v.testBit a with
          | true =>
            have hor1 := Rn.or_shl v a hvb (by omega)
            have hv2 : v ||| 2 ^ a < 4294967296 := by
              have h1 : 2 ^ a < 2 ^ 30 := Nat.pow_lt_pow_right (by omega) (by omega)
              have h2 : v < 2 ^ 30 := by have := hv1.out; have := hpw.out; omega
              have := Nat.or_lt_two_pow h2 h1
              omega
            have hor2 := Rn.or_shl (v ||| 2 ^ a) b hv2 (by omega)
            have HTA := Lib.hid hta
            go_wp2_with fail
            refine (bit_any v a _ hvb (by omega)).mono ?_
            rintro e w5 ⟨rfl, rfl⟩
            rw [hta]
            clear hta
            go_wp2
            go_roundw
            case rel => exact ⟨j + 1, by omega, by go_num, by rw [HT.out, if_pos (.inl HTA.out)], HB.out.alloc hws _⟩
            case measure => simp [intOf]; omega
          | false =>
            cases htb : v.testBit b with
            | true =>
              have hor1 := Rn.or_shl v a hvb (by omega)
              have hv2 : v ||| 2 ^ a < 4294967296 := by
                have h1 : 2 ^ a < 2 ^ 30 := Nat.pow_lt_pow_right (by omega) (by omega)
                have h2 : v < 2 ^ 30 := by have := hv1.out; have := hpw.out; omega
                have := Nat.or_lt_two_pow h2 h1
                omega
              have hor2 := Rn.or_shl (v ||| 2 ^ a) b hv2 (by omega)
              have HTB := Lib.hid htb
              go_wp2_with fail
              refine (bit_any v a _ hvb (by omega)).mono ?_
              rintro e w5 ⟨rfl, rfl⟩
              rw [hta]
              go_wp2_with fail
              refine (bit_any v b _ hvb (by omega)).mono ?_
              rintro e w6 ⟨rfl, rfl⟩
              rw [htb]
              clear hta htb
              go_wp2
              go_roundw
              case rel => exact ⟨j + 1, by omega, by go_num, by rw [HT.out, if_pos (.inr HTB.out)], HB.out.alloc hws _⟩
              case measure => simp [intOf]; omega
            | false =>
              have HTA := Lib.hid hta
              have HTB := Lib.hid htb
              go_wp2_with fail
              refine (bit_any v a _ hvb (by omega)).mono ?_
              rintro e w5 ⟨rfl, rfl⟩
              rw [hta]
              go_wp2_with fail
              refine (bit_any v b _ hvb (by omega)).mono ?_
              rintro e w6 ⟨rfl, rfl⟩
              rw [htb]
              clear hta htb
              go_wp2
              go_roundw
              case rel => exact ⟨j + 1, by omega, by go_num, by rw [HT.out, if_neg (by rw [HTA.out, HTB.out]; simp)], HB.out.alloc hws _⟩
              case measure => simp [intOf]; omega
        · obtain rfl : j = M.length := by omega
          rw [List.take_length]
          go_wp2
          go_roundw
          case rel => exact ⟨k + 1, by omega, by go_num, by rw [HJ.out], HB.out⟩
          case measure => simp [intOf]; omega
    · obtain rfl : n = k := by omega
      go_wp2
      go_ret
      exact ⟨by first | rfl | trivial, HB.out⟩
end Go.Proofs.Ytaodgbeobdholaa.Ec
