/- GraphHolds at the law's arguments. -/
import Derived.Test.YtmgcpfljhcahoaaGrHolds
import Derived.Test.YtmgcpfljhcahoaaGrOpenE
namespace Go.Proofs.Ytmgcpfljhcahoaa
open Go Go.RowKit Sy Tb Gr
set_option maxRecDepth 100000
theorem lHolds (l : List Ed) (s1 s2 : Int) (h1 : 0 ≤ s1 ∧ s1 < 18446744073709551616) (h2 : 0 ≤ s2 ∧ s2 < 18446744073709551616) (W : World) (v : Value) (h : Nonempty (RoArg W v l.length (fun j => [.str (l.getD j e00).1, .str (l.getD j e00).2]) 2)) : Calls Try.prog 6 #[v, .int .u64 s1, .int .u64 s2] W fun e w' => e = .returned (.bool true) ∧ Below W.heap.size W w' := by
  obtain ⟨h⟩ := h
  obtain ⟨ρ, c, e, hr, hfp, hcz⟩ := ro_one h (by decide) (ed_ok l)
  exact SHolds_top ((c, l, e), s1, s2) ⟨h1, h2⟩ ⟨rfl, rfl⟩ (fun o ho => ⟨c, _, _, e, 2, List.mem_singleton.1 ho⟩) ρ W [v, .int .u64 s1, .int .u64 s2] hr hfp (by
    show czl ρ [V.sl 0 0 2 l.length false, u64 s1, u64 s2] = some [v, .int .u64 s1, .int .u64 s2]
    simp only [czl, hcz]
    rfl)
end Go.Proofs.Ytmgcpfljhcahoaa
