/- A list of calls among the arguments; for the laws of the epochs. -/
import Derived.Test.YtagpkejbbmpcgaaEpLawR
namespace Go.Proofs.Ytagpkejbbmpcgaa
open Go Go.RowKit Go.ChangeShapes Go.WideShapes Go.Deep Sy Ti

set_option maxRecDepth 100000
theorem u8_wf {n : Int} (h : (Lit.int .u8 n).wf = true) : 0 ≤ n ∧ n < 256 := by
  simp [Lit.wf, IntKind.min, IntKind.max, IntKind.signed, IntKind.bits] at h
  omega
end Go.Proofs.Ytagpkejbbmpcgaa
