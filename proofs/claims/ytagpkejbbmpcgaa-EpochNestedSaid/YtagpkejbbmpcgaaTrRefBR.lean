/- What the reference of the trie computes: Cut, Max, Longest. -/
import Derived.Test.YtagpkejbbmpcgaaTrRefR
namespace Go.Proofs.Ytagpkejbbmpcgaa
open Go Go.RowKit Sy Ti
set_option maxRecDepth 100000
set_option maxHeartbeats 4000000

def cutE (m : List Pr) (p : Bs) : List Pr × Int × Int := if p.size ≤ 250 then (cutR m p, ((undR m p).length : Nat), 0) else (m, 0, 2)
end Go.Proofs.Ytagpkejbbmpcgaa
