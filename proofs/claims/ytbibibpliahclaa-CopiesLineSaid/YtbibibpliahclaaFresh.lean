/-
  The contract of fresh: a new record of a client.
-/
import Derived.Test.YtbibibpliahclaaRep
import Derived.Outline
import Derived.Lib.Hide
namespace Go.Proofs.Ytbibibpliahclaa.Cp
open Go Go.RowKit Mem

theorem fresh_any (kind frm to val now : Int) (w : World) :
    Calls Try.prog 14 #[.agg #[.int .i64 kind, .int .i64 frm, .int .i64 to, .int .i64 val], .int .i64 now] w fun e w' =>
      e = .returned (.pointer (some ⟨w.heap.size + 1, 0, none⟩)) ∧ Blk w' (w.heap.size + 1) (ClCells (fresh ⟨kind, frm, to, val⟩ now)) 45 ∧ Below w.heap.size w w' := by
  by_cases hv : 0 ≤ val
  · have hm : Hid (max val 0 = val) := Lib.hid (by omega)
    go_enter Try.func14, Try.ntmps14
    go_wp2
    go_ret
    refine ⟨by first | rfl | trivial, ?_, ?_⟩
    · have e : ClCells (fresh ⟨kind, frm, to, val⟩ now) = [.int .i64 1, .int .i64 now, .bool true, .int .i64 val, .int .u32 0, .int .i64 0, .int .i64 0, .int .i64 0] := by
        simp [ClCells, fresh, hm.out, hv]
      rw [e]
      have := Blk.new (w.alloc (Obj.cells #[.int .i64 kind, .int .i64 frm, .int .i64 to, .int .i64 val] 33)) [.int .i64 1, .int .i64 now, .bool true, .int .i64 val, .int .u32 0, .int .i64 0, .int .i64 0, .int .i64 0] 45
      simpa using this
    · repeat (first | exact Below.refl _ _ | refine Below.alloc ?_ (by first | omega | (simp <;> omega)) _ | refine below_drewN ?_ _ | refine Below.drew ?_)
  · have hv2 : val < 0 := by omega
    have hm : Hid (max val 0 = 0) := Lib.hid (by omega)
    clear hv
    go_enter Try.func14, Try.ntmps14
    go_wp2
    go_ret
    refine ⟨by first | rfl | trivial, ?_, ?_⟩
    · have e : ClCells (fresh ⟨kind, frm, to, val⟩ now) = [.int .i64 1, .int .i64 now, .bool (decide (0 ≤ val)), .int .i64 0, .int .u32 0, .int .i64 0, .int .i64 0, .int .i64 0] := by
        simp [ClCells, fresh, hm.out]
      rw [e]
      have := Blk.new (w.alloc (Obj.cells #[.int .i64 kind, .int .i64 frm, .int .i64 to, .int .i64 val] 33)) [.int .i64 1, .int .i64 now, .bool (decide (0 ≤ val)), .int .i64 0, .int .u32 0, .int .i64 0, .int .i64 0, .int .i64 0] 45
      simpa using this
    · repeat (first | exact Below.refl _ _ | refine Below.alloc ?_ (by first | omega | (simp <;> omega)) _ | refine below_drewN ?_ _ | refine Below.drew ?_)
end Go.Proofs.Ytbibibpliahclaa.Cp
