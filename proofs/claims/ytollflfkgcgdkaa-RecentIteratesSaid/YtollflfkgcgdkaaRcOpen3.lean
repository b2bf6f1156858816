/- RecentIterates: the list of calls. -/
import Derived.Test.YtollflfkgcgdkaaRcOpen
import Derived.Test.YtollflfkgcgdkaaRcIter
namespace Go.Proofs.Ytollflfkgcgdkaa
open Go Go.RowKit Go.ChangeShapes Go.WideShapes Go.Deep Sy

theorem lIter (l : List (Int × Int)) (many : Int) (W : World) (v : Value) (h : Nonempty (RoArg W v l.length (fun j => actC (l.getD j (0, 0))) 2)) : Calls Try.prog 6 #[v, .int .i64 many] W fun e w' => e = .returned (.bool true) ∧ Below W.heap.size W w' := by
  obtain ⟨h⟩ := h
  obtain ⟨ρ, c, e, hr, hfp, hcz⟩ := ro_one h (by decide) (act_ok l)
  exact SIter_top ((c, l, e), many) trivial ⟨rfl, rfl⟩ (fun o ho => ⟨c, _, _, e, 2, List.mem_singleton.1 ho⟩) ρ W [v, .int .i64 many] hr hfp (by
    show czl ρ [V.sl 0 0 2 l.length false, V.int .i64 many] = some [v, .int .i64 many]
    exact czl_cons.2 ⟨_, _, hcz, by simp only [czl, cz], rfl⟩)
end Go.Proofs.Ytollflfkgcgdkaa
