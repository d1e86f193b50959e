/-
  The contract of (*all).reach: all ways together.
-/
import Derived.Test.YtbibibpliahclaaReach
namespace Go.Proofs.Ytbibibpliahclaa.Cp
open Go Go.RowKit Mem

theorem reach_any {B ba bl : Nat} {ov : Value} {s : St} {i t : Nat} {c : Cl} {k : Kept} {w : World} (now : Int) (h : RepC B ba bl ov s i c w) (ht : t < s.l.length) (hk : s.l[t]? = some k) (hn : s.l.length ≤ 6)
    (hm : 0 ≤ c.many) (hm1 : c.many < 100) (hr : c.reached < 64) (hbs0 : 0 ≤ c.bs) (hbs1 : c.bs ≤ 10000) (hks1 : k.stamp ≤ 10000) (hop : s.ops.length ≤ 100) (hp : c.part = 1 ∨ c.part = 2) :
    Calls Try.prog 15 #[.pointer (some ⟨ba, 0, none⟩), .int .i64 i, .int .i64 t, .int .i64 now] w fun e w' => e = .returned (.tuple #[]) ∧ (∃ ov', Rep B ba bl ov' (reach s i t c k now) w' ∧ Lat w ov ov') ∧ Fr ba bl ov w w' := by
  rcases hp with hp | hp
  · by_cases hb : c.bs < k.stamp
    · by_cases hq : 2 * (c.many + 1) ≤ s.l.length
      · exact reach_1a now h ht hk hn hm hm1 hr hbs0 hbs1 hks1 hop hp hb hq
      · cases hw : c.wr with
        | false => exact reach_1fa now h ht hk hn hm hm1 hr hbs0 hbs1 hks1 hop hp hb (by omega) hw
        | true => exact reach_1ta now h ht hk hn hm hm1 hr hbs0 hbs1 hks1 hop hp hb (by omega) hw
    · by_cases hq : 2 * (c.many + 1) ≤ s.l.length
      · exact reach_1b now h ht hk hn hm hm1 hr hbs0 hbs1 hks1 hop hp (by omega) hq
      · cases hw : c.wr with
        | false => exact reach_1fb now h ht hk hn hm hm1 hr hbs0 hbs1 hks1 hop hp (by omega) (by omega) hw
        | true => exact reach_1tb now h ht hk hn hm hm1 hr hbs0 hbs1 hks1 hop hp (by omega) (by omega) hw
  · by_cases hb : k.stamp < c.bs
    · by_cases hq : 2 * (c.many + 1) ≤ s.l.length
      · exact reach_2a now h ht hk hn hm hm1 hr hbs0 hbs1 hks1 hop hp hb hq
      · exact reach_2ga now h ht hk hn hm hm1 hr hbs0 hbs1 hks1 hop hp hb (by omega)
    · by_cases hq : 2 * (c.many + 1) ≤ s.l.length
      · exact reach_2b now h ht hk hn hm hm1 hr hbs0 hbs1 hks1 hop hp (by omega) hq
      · exact reach_2gb now h ht hk hn hm hm1 hr hbs0 hbs1 hks1 hop hp (by omega) (by omega)
end Go.Proofs.Ytbibibpliahclaa.Cp
