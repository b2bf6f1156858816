/- The law TrieHolds at its arguments. -/
import Derived.Test.YtngggdlcanpfgaaTrOpenR
import Derived.Test.YtngggdlcanpfgaaTrHoldsR
namespace Go.Proofs.Ytngggdlcanpfgaa
open Go Go.RowKit Sy Ti
theorem lHolds (l : List ActP) (s : Bs) (hts : ∀ a ∈ l, 0 ≤ a.2.2 ∧ a.2.2 < 18446744073709551616) (W : World) (v : Value) (h : Nonempty (RoArg W v l.length (fun j => apC (l.getD j ap0)) 3)) : Calls Try.prog 5 #[v, .string s] W fun e w' => e = .returned (.bool true) ∧ Below W.heap.size W w' := by
  obtain ⟨h⟩ := h
  obtain ⟨ρ, c, e, hr, hfp, hcz⟩ := ro_one h (by decide) (ap_ok l)
  exact SHolds_top ((c, l, e), s) hts ⟨rfl, rfl⟩ (fun o ho => ⟨c, _, _, e, 3, List.mem_singleton.1 ho⟩) ρ W [v, .string s] hr hfp (by
    show czl ρ [V.sl 0 0 3 l.length false, V.str s] = some [v, .string s]
    simp only [czl, hcz]
    rfl)
end Go.Proofs.Ytngggdlcanpfgaa
