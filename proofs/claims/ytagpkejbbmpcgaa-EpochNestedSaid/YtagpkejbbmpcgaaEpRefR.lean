/- What the reference of the epochs computes. -/
import Derived.Test.YtagpkejbbmpcgaaEpResR
namespace Go.Proofs.Ytagpkejbbmpcgaa
open Go Go.RowKit Sy Ti
set_option maxRecDepth 100000
set_option maxHeartbeats 8000000

structure RX where
  f : Int
  l : Int
  m : List Pr
  s : Bs
  n : Int
theorem RightP.start : RightP 0 0 [] := ⟨Int.le_refl 0, .nil, fun _ h => absurd h List.not_mem_nil, fun _ h => absurd h List.not_mem_nil, fun _ h => absurd h List.not_mem_nil⟩
end Go.Proofs.Ytagpkejbbmpcgaa
