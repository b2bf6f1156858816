/- The law EpochPlays at its arguments. -/
import Derived.Test.YtagpkejbbmpcgaaEpOpenR
import Derived.Test.YtagpkejbbmpcgaaEpPlaysR
namespace Go.Proofs.Ytagpkejbbmpcgaa
open Go Go.RowKit Sy Ti
theorem lEPlays (l : List ActP) (hts : ∀ a ∈ l, 0 ≤ a.2.2 ∧ a.2.2 < 18446744073709551616) (W : World) (v : Value) (h : Nonempty (RoArg W v l.length (fun j => apC (l.getD j ap0)) 3)) : Calls Try.prog 5 #[v] W fun e w' => e = .returned (.bool true) ∧ Below W.heap.size W w' := by
  obtain ⟨h⟩ := h
  obtain ⟨ρ, c, e, hr, hfp, hcz⟩ := ro_one h (by decide) (ap_ok l)
  exact EPlaysL_top (c, l, e) hts ⟨rfl, rfl⟩ (fun o ho => ⟨c, _, _, e, 3, List.mem_singleton.1 ho⟩) ρ W [v] hr hfp (by
    show czl ρ [V.sl 0 0 3 l.length false] = some [v]
    simp only [czl, hcz])
end Go.Proofs.Ytagpkejbbmpcgaa
