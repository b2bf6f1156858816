/- What the functions of package graph compute, with what is returned named. -/
import Derived.Test.YtmgcpfljhcahoaaGrNodesR
import Derived.Test.YtmgcpfljhcahoaaGrPrg6R
namespace Go.Proofs.Ytmgcpfljhcahoaa
open Go Go.RowKit Sy Tb Gr
set_option maxRecDepth 100000
set_option maxHeartbeats 4000000
/-! The same, with what is returned named -/
def SNodesL : LSpec where
  X := GG × List Bs
  k := 5
  pre x := (GT x.1 x.1.ns.length ∧ 1 ≤ x.1.N) ∧ sortK (keyL x.1.ns) = x.2
  args _ θ := [.ptr (θ 0) 0]
  objs x θ := x.1.objs θ
  out x θ R := R (.sl (θ 5) 0 1 x.2.length false) (x.1.all θ ++ [some (stR x.2)])
theorem SNodesL_nt : SNodesL.Nt := ⟨fun _ _ => rfl, by unfold SNodesL GG.objs; (intros; simp only [ren_all] at *; try assumption), by unfold SNodesL GG.all; (intros; simp only [ren_all] at *; try assumption)⟩
theorem SNodesL_ok : SNodesL.Ok Try.prog 23 := fun ⟨g, L⟩ R ⟨h1, h2⟩ hR => SNodes_ok g R h1 (by have h2 : sortK (keyL g.ns) = L := h2; subst h2; exact hR)
def SEndsL (e : Bool) : LSpec where
  X := GG × Bs × List Bs
  k := 5
  pre x := (GT x.1 x.1.ns.length ∧ 1 ≤ x.1.N ∧ x.2.1.size ≤ 1000000 ∧ EI x.1.ns) ∧ keysE e x.1.ns x.2.1 = x.2.2
  args x θ := [.ptr (θ 0) 0, .str x.2.1]
  objs x θ := x.1.objs θ
  out x θ R := R (.sl (θ 5) 0 1 x.2.2.length false) (x.1.all θ ++ [some (stR x.2.2)])
theorem SEndsL_nt (e : Bool) : (SEndsL e).Nt := ⟨fun _ _ => rfl, by unfold SEndsL GG.objs; (intros; simp only [ren_all] at *; try assumption), by unfold SEndsL GG.all; (intros; simp only [ren_all] at *; try assumption)⟩
theorem SChL_ok : (SEndsL false).Ok Try.prog 27 := fun ⟨g, k, L⟩ R ⟨h1, h2⟩ hR => SChildren_ok (g, k) R h1 (by have h2 : keysE false g.ns k = L := h2; subst h2; exact hR)
theorem SPaL_ok : (SEndsL true).Ok Try.prog 28 := fun ⟨g, k, L⟩ R ⟨h1, h2⟩ hR => SParents_ok (g, k) R h1 (by have h2 : keysE true g.ns k = L := h2; subst h2; exact hR)
end Go.Proofs.Ytmgcpfljhcahoaa
