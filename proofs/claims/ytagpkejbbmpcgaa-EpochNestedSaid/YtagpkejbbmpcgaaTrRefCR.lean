/- What the reference of the trie computes: Remove, Set, Same. -/
import Derived.Test.YtagpkejbbmpcgaaTrRefBR
namespace Go.Proofs.Ytagpkejbbmpcgaa
open Go Go.RowKit Sy Ti
set_option maxRecDepth 100000
set_option maxHeartbeats 4000000

theorem sz_t {s : Bs} (h : (!decide ((s.size : Int) ≤ 250)) = true) : ¬ s.size ≤ 250 := fun q => by
  rw [decide_eq_true (show (s.size : Int) ≤ 250 by omega)] at h
  cases h
theorem sz_f {s : Bs} (h : (!decide ((s.size : Int) ≤ 250)) = false) : s.size ≤ 250 := Decidable.byContradiction fun q => by
  rw [decide_eq_false (show ¬ (s.size : Int) ≤ 250 by omega)] at h
  cases h
theorem remE_del {m : List Pr} {s : Bs} (hs : s.size ≤ 250) : (remE m s).1 = delR m s := by
  unfold remE
  rw [posP_get hs]
  by_cases h : posP s m < m.length
  · rw [if_pos h]
    exact congrArg Prod.fst (if_pos rfl)
  · rw [if_neg h]
    refine (congrArg Prod.fst (if_neg (by decide))).trans ?_
    refine (delR_none fun x hx e => ?_).symm
    have e1 : posP s m = m.length := Nat.le_antisymm posP_le (Nat.le_of_not_lt h)
    unfold posP at e1
    rw [List.findIdx_eq_length] at e1
    have := e1 x hx
    simp at this
    exact this e
end Go.Proofs.Ytagpkejbbmpcgaa
