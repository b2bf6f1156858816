/- RecentHolds: the list of calls. -/
import Derived.Test.YtollflfkgcgdkaaRcOpen
import Derived.Test.YtollflfkgcgdkaaRcHolds
namespace Go.Proofs.Ytollflfkgcgdkaa
open Go Go.RowKit Go.ChangeShapes Go.WideShapes Go.Deep Sy

theorem lHolds (l : List (Int × Int)) (W : World) (v : Value) (h : Nonempty (RoArg W v l.length (fun j => actC (l.getD j (0, 0))) 2)) : Calls Try.prog 4 #[v] W fun e w' => e = .returned (.bool true) ∧ Below W.heap.size W w' := by
  obtain ⟨h⟩ := h
  obtain ⟨ρ, c, e, hr, hfp, hcz⟩ := ro_one h (by decide) (act_ok l)
  exact SHolds_top (c, l, e) trivial ⟨rfl, rfl⟩ (fun o ho => ⟨c, _, _, e, 2, List.mem_singleton.1 ho⟩) ρ W [v] hr hfp (by
    show czl ρ [V.sl 0 0 2 l.length false] = some [v]
    simp only [czl, hcz])
end Go.Proofs.Ytollflfkgcgdkaa
