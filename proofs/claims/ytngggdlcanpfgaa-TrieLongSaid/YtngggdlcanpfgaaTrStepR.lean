/- What the law's functions of the trie compute: is, few, step. -/
import Derived.Test.YtngggdlcanpfgaaTrLawR
namespace Go.Proofs.Ytngggdlcanpfgaa
open Go Go.RowKit Sy Ti
set_option maxRecDepth 100000
set_option maxHeartbeats 4000000

theorem conCu : ConOk Try.prog (conOf [(21, GCut.T)]) := conOf_cons (LSpec.call GCut_nt GCut_ok) conOf_nil
theorem conRm : ConOk Try.prog (conOf [(20, GRemove.T)]) := conOf_cons (LSpec.call GRemove_nt GRemove_ok) conOf_nil
end Go.Proofs.Ytngggdlcanpfgaa
