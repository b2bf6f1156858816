/- The law TriePlays at its arguments. -/
import Derived.Test.YtngggdlcanpfgaaTrOpenR
import Derived.Test.YtngggdlcanpfgaaTrPlaysR
namespace Go.Proofs.Ytngggdlcanpfgaa
open Go Go.RowKit Sy Ti
theorem lPlays (l : List ActP) (by0 : Int) (hts : ∀ a ∈ l, 0 ≤ a.2.2 ∧ a.2.2 < 18446744073709551616) (W : World) (v : Value) (h : Nonempty (RoArg W v l.length (fun j => apC (l.getD j ap0)) 3)) : Calls Try.prog 6 #[v, .int .u8 by0] W fun e w' => e = .returned (.bool true) ∧ Below W.heap.size W w' := by
  obtain ⟨h⟩ := h
  obtain ⟨ρ, c, e, hr, hfp, hcz⟩ := ro_one h (by decide) (ap_ok l)
  exact SPlays_top ((c, l, e), by0) hts ⟨rfl, rfl⟩ (fun o ho => ⟨c, _, _, e, 3, List.mem_singleton.1 ho⟩) ρ W [v, .int .u8 by0] hr hfp (by
    show czl ρ [V.sl 0 0 3 l.length false, V.int .u8 by0] = some [v, .int .u8 by0]
    simp only [czl, hcz]
    rfl)
end Go.Proofs.Ytngggdlcanpfgaa
