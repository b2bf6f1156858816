/- CascadeHolds at the law's arguments. -/
import Derived.Test.YtddionboojdjlaaK15CascadeHolds
import Derived.Test.YtddionboojdjlaaCaHoldsR
namespace Go.Proofs.Ytddionboojdjlaa
set_option maxRecDepth 100000
open Go Go.RowKit Sy Tb Gr
theorem lHolds (l : List Ed) (W : World) (v : Value) (h : Nonempty (RoArg W v l.length (fun j => [.str (l.getD j e00).1, .str (l.getD j e00).2]) 2)) :
    Calls Try.prog 7 #[v] W fun e w' => e = .returned (.bool true) ∧ Below W.heap.size W w' := by
  obtain ⟨h⟩ := h
  obtain ⟨p, c, hc, _, hz⟩ := h.fz (by decide) (ed_ok l)
  refine SHoldsL_top W (_, (p, c, l)) hz rfl ⟨rfl, rfl⟩ [v] ?_
  show czl _ [V.zsl 0 p 2 l.length c] = some [v]
  simp only [czl, hc]
end Go.Proofs.Ytddionboojdjlaa
