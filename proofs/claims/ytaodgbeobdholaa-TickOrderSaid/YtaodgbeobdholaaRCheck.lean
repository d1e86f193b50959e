/-
  The walk through the answers' RunCheck: it says what Check says.
-/
import Derived.Test.YtaodgbeobdholaaCheck
namespace Go.Proofs.Ytaodgbeobdholaa.Rn
open Go Go.RowKit Mem

def EvL (e : Ev) : List Value := [.int .i64 e.proc, .int .i64 e.kind, .int .i64 e.msg]

set_option maxRecDepth 100000 in
set_option maxHeartbeats 4000000 in
theorem rcheck_any (n : Int) (ao : Option Addr) (cap : Nat) (L : List Ev) (hcap : L.length ≤ cap) (w : World) (hL : EvsAt w ao L) :
    Calls Try.prog 24 #[.int .i64 n, .slice ao L.length cap] w fun e w' => e = .returned (.int .i64 (check n L)) ∧ Below w.heap.size w w' := by
  have HL := Lib.hid hL
  clear hL
  by_cases h1 : n < 1
  · have H : Hid (check n L = 1) := Lib.hid (by unfold check; rw [if_pos (by omega)])
    go_enter Try.func24, Try.ntmps24
    go_wp2
    go_ret
    exact ⟨by rw [H.out]; rfl, Below.refl _ _⟩
  by_cases h2 : 6 < n
  · have H : Hid (check n L = 1) := Lib.hid (by unfold check; rw [if_pos (by omega)])
    go_enter Try.func24, Try.ntmps24
    go_wp2
    go_ret
    exact ⟨by rw [H.out]; rfl, Below.refl _ _⟩
  by_cases h3 : 30 < L.length
  · have H : Hid (check n L = 1) := Lib.hid (by unfold check; rw [if_pos (by omega)])
    have h4 : (30 : Int) < L.length := by omega
    clear h3
    go_enter Try.func24, Try.ntmps24
    go_wp2
    go_ret
    exact ⟨by rw [H.out]; rfl, Below.refl _ _⟩
  have H : Hid (check n L = chk n (fun _ => 0) L) := Lib.hid (by unfold check; rw [if_neg (by omega)])
  have h4 : (L.length : Int) ≤ 30 := by omega
  go_enter Try.func24, Try.ntmps24
  go_wp2
  go_loopw [24] (fun i wr => ∃ k : Nat, k ≤ L.length ∧ i = .int .i64 k ∧ ChkR n L k ∧ Below w.heap.size w wr) (fun i _ => L.length - (intOf i).toNat)
  case atStart => exact ⟨0, Nat.zero_le _, rfl, ChkR.start n L, Below.refl _ _⟩
  case round =>
    obtain ⟨k, hk, rfl, ⟨hchk, hf⟩, hb⟩ := hrel
    by_cases hlt : k < L.length
    · obtain ⟨o, ho⟩ : ∃ a, L[k]? = some a := ⟨L[k], List.getElem?_eq_getElem hlt⟩
      obtain ⟨b, off, hao, hcells⟩ := (HL.out.later hb) (by intro e; rw [e] at hlt; simp at hlt)
      obtain ⟨r0, r1, r2⟩ := hcells k o ho
      subst hao
      rw [drop_get ho] at hchk
      have HB := Lib.hid hb
      have HF := Lib.hid hf
      have HO := Lib.hid ho
      clear hb hcells ho hf
      rw [chk_cons] at hchk
      by_cases c1 : o.proc < 0 ∨ n ≤ o.proc
      · rw [if_pos c1] at hchk
        have HC := Lib.hid hchk
        clear hchk
        by_cases c2 : o.proc < 0
        · clear c1
          go_wp2
          go_ret
          exact ⟨by rw [H.out, HC.out]; rfl, HB.out.alloc HB.out.size _⟩
        · have c3 : n ≤ o.proc := by omega
          clear c1
          go_wp2
          go_ret
          exact ⟨by rw [H.out, HC.out]; rfl, HB.out.alloc HB.out.size _⟩
      rw [if_neg c1] at hchk
      have c2 : ¬ o.proc < 0 := by omega
      have c3 : ¬ n ≤ o.proc := by omega
      clear c1
      by_cases d1 : o.kind < 1 ∨ 3 < o.kind
      · rw [if_pos d1] at hchk
        have HC := Lib.hid hchk
        clear hchk
        by_cases d2 : o.kind < 1
        · clear d1
          go_wp2
          go_ret
          exact ⟨by rw [H.out, HC.out]; rfl, HB.out.alloc HB.out.size _⟩
        · have d3 : 3 < o.kind := by omega
          clear d1
          go_wp2
          go_ret
          exact ⟨by rw [H.out, HC.out]; rfl, HB.out.alloc HB.out.size _⟩
      rw [if_neg d1] at hchk
      have d2 : ¬ o.kind < 1 := by omega
      have d3 : ¬ 3 < o.kind := by omega
      clear d1
      by_cases e1 : o.kind = 1
      · rw [if_pos e1] at hchk
        have HC := Lib.hid hchk
        have E1 := Lib.hid e1
        clear hchk
        go_wp2
        go_roundw
        case rel => exact ⟨k + 1, by omega, by go_num, ChkR.local HO.out E1.out HC.out HF.out, HB.out.alloc HB.out.size _⟩
        case measure => simp [intOf]; omega
      rw [if_neg e1] at hchk
      by_cases m1 : o.msg < 0 ∨ 20 < o.msg
      · rw [if_pos m1] at hchk
        have HC := Lib.hid hchk
        clear hchk
        by_cases m2 : o.msg < 0
        · clear m1
          go_wp2
          go_ret
          exact ⟨by rw [H.out, HC.out]; rfl, HB.out.alloc HB.out.size _⟩
        · have m3 : 20 < o.msg := by omega
          clear m1
          go_wp2
          go_ret
          exact ⟨by rw [H.out, HC.out]; rfl, HB.out.alloc HB.out.size _⟩
      rw [if_neg m1] at hchk
      have m2 : ¬ o.msg < 0 := by omega
      have m3 : ¬ 20 < o.msg := by omega
      clear m1
      have HCHK := Lib.hid hchk
      clear hchk
      go_wp2
      refine gen_world (P := Code.wp Try.prog _ _ _) (Q := fun W => Below w.heap.size w W ∧ Blk W wr.heap.size (EvL o) 45 ∧ w.heap.size ≤ wr.heap.size) _ ?_ ?_
      · exact ⟨HB.out.alloc HB.out.size _, Blk.new wr (EvL o) 45, HB.out.size⟩
      generalize wr.heap.size = ob
      clear r0 r1 r2 HB
      clear wr
      intro w2 hI
      go_loopw [7, 8, 61] (fun s t i wq => ∃ x : Nat, x ≤ k ∧ s = .int .i64 (many 2 o.msg (L.take x)) ∧ t = .int .i64 (many 3 o.msg (L.take x)) ∧ i = .int .i64 x ∧ Below w.heap.size w wq ∧ Blk wq ob (EvL o) 45 ∧ w.heap.size ≤ ob) (fun _ _ i _ => k - (intOf i).toNat)
      case atStart => exact ⟨0, Nat.zero_le _, rfl, rfl, rfl, hI⟩
      case round =>
        clear hI
        obtain ⟨x, hx, rfl, rfl, rfl, hb, hob, hobl⟩ := hrel
        have q2 := many_bound 2 o.msg L x (by omega)
        have q3 := many_bound 3 o.msg L x (by omega)
        have x0 := hob.cell (o := 0) rfl
        have x1 := hob.cell (o := 1) rfl
        have x2 := hob.cell (o := 2) rfl
        have hlo := hob.lt
        by_cases hlt2 : x < k
        · obtain ⟨a, ha⟩ : ∃ a, L[x]? = some a := ⟨L[x]'(by omega), List.getElem?_eq_getElem _⟩
          obtain ⟨b2, off2, hao, hcells⟩ := (HL.out.later hb) (by intro e; rw [e] at hlt; simp at hlt)
          obtain ⟨rfl, rfl⟩ := (show b = b2 ∧ off = off2 by simpa using hao)
          obtain ⟨r0, r1, r2⟩ := hcells x a ha
          have hs2 := many_take 2 o.msg L x a ha
          have hs3 := many_take 3 o.msg L x a ha
          have HB := Lib.hid hb
          have HOB := Lib.hid hob
          clear hb hob hcells ha hao
          by_cases g1 : a.kind = 2
          · by_cases g2 : a.msg = o.msg
            · rw [if_pos ⟨g1, g2⟩] at hs2
              rw [if_neg (by omega)] at hs3
              have S2 := Lib.hid hs2
              have S3 := Lib.hid hs3
              clear hs2 hs3
              have g3 : (a.msg == o.msg) = true := by simpa using g2
              clear g2
              go_wp2
              go_roundw
              case rel => exact ⟨x + 1, by omega, by rw [S2.out]; try go_num, by rw [S3.out]; try go_num, by go_num, HB.out.alloc HB.out.size _, HOB.out.alloc _, hobl⟩
              case measure => simp [intOf]; omega
            · rw [if_neg (by omega)] at hs2
              rw [if_neg (by omega)] at hs3
              have S2 := Lib.hid hs2
              have S3 := Lib.hid hs3
              clear hs2 hs3
              have g3 : (a.msg == o.msg) = false := by simpa using g2
              clear g2
              go_wp2
              go_roundw
              case rel => exact ⟨x + 1, by omega, by rw [S2.out]; try go_num, by rw [S3.out]; try go_num, by go_num, HB.out.alloc HB.out.size _, HOB.out.alloc _, hobl⟩
              case measure => simp [intOf]; omega
          · by_cases g4 : a.kind = 3
            · by_cases g2 : a.msg = o.msg
              · rw [if_neg (by omega)] at hs2
                rw [if_pos ⟨g4, g2⟩] at hs3
                have S2 := Lib.hid hs2
                have S3 := Lib.hid hs3
                clear hs2 hs3
                have g3 : (a.msg == o.msg) = true := by simpa using g2
                clear g2
                go_wp2
                go_roundw
                case rel => exact ⟨x + 1, by omega, by rw [S2.out]; try go_num, by rw [S3.out]; try go_num, by go_num, HB.out.alloc HB.out.size _, HOB.out.alloc _, hobl⟩
                case measure => simp [intOf]; omega
              · rw [if_neg (by omega)] at hs2
                rw [if_neg (by omega)] at hs3
                have S2 := Lib.hid hs2
                have S3 := Lib.hid hs3
                clear hs2 hs3
                have g3 : (a.msg == o.msg) = false := by simpa using g2
                clear g2
                go_wp2
                go_roundw
                case rel => exact ⟨x + 1, by omega, by rw [S2.out]; try go_num, by rw [S3.out]; try go_num, by go_num, HB.out.alloc HB.out.size _, HOB.out.alloc _, hobl⟩
                case measure => simp [intOf]; omega
            · rw [if_neg (by omega)] at hs2
              rw [if_neg (by omega)] at hs3
              have S2 := Lib.hid hs2
              have S3 := Lib.hid hs3
              clear hs2 hs3
              go_wp2
              go_roundw
              case rel => exact ⟨x + 1, by omega, by rw [S2.out]; try go_num, by rw [S3.out]; try go_num, by go_num, HB.out.alloc HB.out.size _, HOB.out.alloc _, hobl⟩
              case measure => simp [intOf]; omega
        · obtain rfl : x = k := by omega
          have hfm := HF.out o.msg
          have HB := Lib.hid hb
          clear hb hob
          have hst : Hid (stF L x o.msg = many 2 o.msg (L.take x) + many 3 o.msg (L.take x)) := Lib.hid rfl
          generalize many 2 o.msg (L.take x) = S at hfm hst q2 ⊢
          generalize many 3 o.msg (L.take x) = T at hfm hst q3 ⊢
          by_cases k2 : o.kind = 2
          · have K2 := Lib.hid k2
            by_cases z1 : 0 < S
            · have HC : Hid (chk n (fun _ => 0) L = 3) := Lib.hid (by rw [HCHK.out, if_pos]; rw [hst.out]; omega)
              go_wp2
              go_ret
              exact ⟨by rw [H.out, HC.out]; rfl, HB.out⟩
            · have HC : Hid (ChkR n L (x + 1)) := Lib.hid (by
                have h0 : stF L x o.msg = o.kind - 2 := by rw [hst.out]; omega
                have h1 := HCHK.out
                rw [if_neg (by simpa using h0)] at h1
                exact ChkR.other HO.out (.inl k2) h0 h1 HF.out)
              go_wp2
              go_roundw
              case rel => exact ⟨x + 1, by omega, by go_num, HC.out, HB.out⟩
              case measure => simp [intOf]; omega
          · have k3 : o.kind = 3 := by omega
            by_cases z1 : S = 0
            · have HC : Hid (chk n (fun _ => 0) L = 3) := Lib.hid (by rw [HCHK.out, if_pos]; rw [hst.out]; omega)
              clear hfm
              go_wp2
              go_ret
              exact ⟨by rw [H.out, HC.out]; rfl, HB.out⟩
            · by_cases z2 : 0 < T
              · have HC : Hid (chk n (fun _ => 0) L = 3) := Lib.hid (by rw [HCHK.out, if_pos]; rw [hst.out]; omega)
                have z3 : (S == 0) = false := by simpa using z1
                clear hfm z1
                go_wp2
                go_ret
                exact ⟨by rw [H.out, HC.out]; rfl, HB.out⟩
              · have HC : Hid (ChkR n L (x + 1)) := Lib.hid (by
                  have h0 : stF L x o.msg = o.kind - 2 := by rw [hst.out]; omega
                  have h1 := HCHK.out
                  rw [if_neg (by simpa using h0)] at h1
                  exact ChkR.other HO.out (.inr k3) h0 h1 HF.out)
                have z3 : (S == 0) = false := by simpa using z1
                clear hfm z1
                go_wp2
                go_roundw
                case rel => exact ⟨x + 1, by omega, by go_num, HC.out, HB.out⟩
                case measure => simp [intOf]; omega
    · have hkl : k = L.length := by omega
      have HC : Hid (chk n (fun _ => 0) L = 0) := Lib.hid (by rw [hchk, hkl, List.drop_length]; rfl)
      have HB := Lib.hid hb
      clear hchk hb hf
      go_wp2
      go_ret
      exact ⟨by rw [H.out, HC.out]; rfl, HB.out⟩
end Go.Proofs.Ytaodgbeobdholaa.Rn
