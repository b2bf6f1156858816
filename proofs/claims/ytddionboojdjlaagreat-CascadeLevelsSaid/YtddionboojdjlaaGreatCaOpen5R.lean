/- CascadeLevels at the law's arguments. -/
import Derived.Test.YtddionboojdjlaaGreatK7CascadeLevels
import Derived.Test.YtddionboojdjlaaGreatCaLevLR
namespace Go.Proofs.YtddionboojdjlaaGreat
set_option maxRecDepth 100000
open Go Go.RowKit Sy Tb Gr
theorem lLevels (l : List Ed) (key : ByteArray) (W : World) (v : Value) (h : Nonempty (RoArg W v l.length (fun j => [.str (l.getD j e00).1, .str (l.getD j e00).2]) 2)) :
    Calls Tryz.prog 3 #[v, .string key] W fun e w' => e = .returned (.bool true) ∧ Below W.heap.size W w' := by
  obtain ⟨h⟩ := h
  obtain ⟨p, c, hc, _, hz⟩ := h.fz (by decide) (ed_ok l)
  refine SLevelsL_top W (_, (p, c, l), key) hz rfl ⟨rfl, rfl⟩ [v, .string key] ?_
  show czl _ [V.zsl 0 p 2 l.length c, .str key] = some [v, .string key]
  simp only [czl, hc]
  rfl
end Go.Proofs.YtddionboojdjlaaGreat
