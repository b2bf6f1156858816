/- What the reference of the trie computes: Find, Max, Longest, Under, Cut. -/
import Derived.Test.YtagpkejbbmpcgaaTrGR
namespace Go.Proofs.Ytagpkejbbmpcgaa
open Go Go.RowKit Sy Ti
set_option maxRecDepth 100000
set_option maxHeartbeats 4000000

def posP (s : Bs) (w : List Pr) : Nat := w.findIdx fun c => decide (c.1 = s)
theorem posP_le {s : Bs} {w : List Pr} : posP s w ≤ w.length := List.findIdx_le_length
theorem posP_no {s : Bs} {w : List Pr} {j : Nat} (h : j < posP s w) : (w.getD j p00).1 ≠ s := by
  have hl : j < w.length := Nat.lt_of_lt_of_le h posP_le
  have := List.not_of_lt_findIdx h
  rw [List.getD_eq_getElem?_getD, List.getElem?_eq_getElem hl]
  simpa using this
theorem getD_in {w : List Pr} {j : Nat} (h : j < w.length) : w.getD j p00 ∈ w := by
  rw [List.getD_eq_getElem?_getD, List.getElem?_eq_getElem h]
  exact List.getElem_mem h
theorem posP_get {s : Bs} {w : List Pr} (hs : s.size ≤ 250) : getE w s = if posP s w < w.length then ((w.getD (posP s w) p00).2, 0) else (0, 9) := by
  unfold getE
  rw [if_pos hs]
  by_cases h : posP s w < w.length
  · rw [if_pos h]
    have : w.find? (fun x => decide (x.1 = s)) = some (w.getD (posP s w) p00) := by
      rw [List.getD_eq_getElem?_getD, List.getElem?_eq_getElem h]
      refine List.find?_eq_some_iff_getElem.2 ⟨?_, posP s w, h, rfl, fun j hj => ?_⟩
      · exact List.findIdx_getElem (w := h)
      · have := posP_no hj
        rw [List.getD_eq_getElem?_getD, List.getElem?_eq_getElem (Nat.lt_trans hj h)] at this
        simpa using this
    rw [this]
  · rw [if_neg h]
    have : w.find? (fun x => decide (x.1 = s)) = none := List.find?_eq_none.2 fun x hx e => by
      have e1 : posP s w = w.length := Nat.le_antisymm posP_le (Nat.le_of_not_lt h)
      unfold posP at e1
      rw [List.findIdx_eq_length] at e1
      have := e1 x hx
      simp at this e
      exact this e
    rw [this]
theorem take_snoc {w : List Pr} {i : Nat} (h : i < w.length) : w.take (i + 1) = w.take i ++ [w.getD i p00] := by
  rw [List.getD_eq_getElem?_getD, List.getElem?_eq_getElem h, List.take_add_one, List.getElem?_eq_getElem h]
  rfl
end Go.Proofs.Ytagpkejbbmpcgaa
