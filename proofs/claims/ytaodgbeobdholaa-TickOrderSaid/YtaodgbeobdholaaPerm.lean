/-
  The sorted row is an order.
-/
import Derived.Test.YtaodgbeobdholaaSorted
import Derived.Test.YtaodgbeobdholaaGood
namespace Go.Proofs.Ytaodgbeobdholaa.Rn
open Go Go.RowKit Mem Go.Shelf Go.Lib Go.Sort

theorem perm_good {M : Nat} {L : List Ev} {pk : Nat → Int} (hN : L.length = M + 1) (hl : L.length ≤ 30) {d d' : Array (Fin (M + 1))} (hd : d = Array.ofFn id)
    (hp : PermIn 0 d.size d d') (hs : SortedIn (ltOf (cfN M (fun i => (ticks L).getD i 0) pk)) 0 d.size d') : GoodOrder L (d'.toList.map (·.val)) := by
  have hsz : d.size = M + 1 := by rw [hd]; simp
  obtain ⟨h1, _, h2⟩ := hp
  have hsz' : d'.size = M + 1 := by omega
  have e1 : d'.extract 0 d.size = d' := by rw [← h1]; simp
  have e2 : d.extract 0 d.size = d := by simp
  rw [e1, e2] at h2
  have hlen : d'.toList.length = M + 1 := by simpa using hsz'
  have hdv : d.toList.map (·.val) = List.range (M + 1) := by
    rw [hd]
    apply List.ext_getElem
    · simp
    · intro i h1 h2
      rw [List.getElem_map, Array.getElem_toList, Array.getElem_ofFn, List.getElem_range]
      rfl
  have hpm : (d'.toList.map (·.val)).Perm (List.range (M + 1)) := hdv ▸ h2.map _
  refine good_of hl (by simp; omega) (hpm.nodup_iff.2 List.nodup_range) (fun i => by rw [hpm.mem_iff, List.mem_range, hN]) ?_
  intro a b i j hab ha hb hlt
  rw [List.getElem?_map] at ha hb
  obtain ⟨x, hx, rfl⟩ := Option.map_eq_some_iff.1 ha
  obtain ⟨y, hy, rfl⟩ := Option.map_eq_some_iff.1 hb
  have hbl := (List.getElem?_eq_some_iff.1 hy).1
  have h3 := hs a b (Nat.zero_le _) hab (by omega)
  have ex : d'[a]! = x := by
    have hal : a < d'.size := by omega
    rw [getElem!_pos d' a hal]
    have := (List.getElem?_eq_some_iff.1 hx).2
    simpa using this
  have ey : d'[b]! = y := by
    have hal : b < d'.size := by omega
    rw [getElem!_pos d' b hal]
    have := (List.getElem?_eq_some_iff.1 hy).2
    simpa using this
  rw [ex, ey, cfN_lt] at h3
  rw [decide_eq_false_iff_not] at h3
  exact h3 (.inl hlt)
end Go.Proofs.Ytaodgbeobdholaa.Rn
