/- EpochPlays: the loop. -/
import Derived.Test.YtagpkejbbmpcgaaEpLawR
namespace Go.Proofs.Ytagpkejbbmpcgaa
open Go Go.RowKit Sy Ti
set_option maxRecDepth 100000
set_option maxHeartbeats 8000000

structure PS where
  T : Tt
  R : RowsN
  root : Nat
  ns : List Nat
  m : List Pr
  f : Int
  l : Int
  i : Nat
def mC (i : Nat) (f l : Int) (n : Nat) : SObj := .cells [u64 f, u64 l, .sl i 0 2 n false] 50
end Go.Proofs.Ytagpkejbbmpcgaa
