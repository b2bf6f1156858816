/- What the reference of the trie computes: Common, with, Nodes. -/
import Derived.Test.YtngggdlcanpfgaaTrRefCR
import Derived.Test.YtngggdlcanpfgaaTrSPR
namespace Go.Proofs.Ytngggdlcanpfgaa
open Go Go.RowKit Sy Ti
set_option maxRecDepth 100000
set_option maxHeartbeats 4000000

def withL (L : List Bs) (s : Bs) : List Bs := if L.any (fun x => decide (x = s)) then L else L ++ [s]
end Go.Proofs.Ytngggdlcanpfgaa
