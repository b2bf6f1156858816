/- GraphNil, by the abstract evaluator. Tokens: 0 n, 1 and 2 the lengths, 3 and 4 the strings. -/
import Derived.Test.YtmgcpfljhcahoaaAeFacts
namespace Go.Proofs.Ytmgcpfljhcahoaa
open Go.RowKit

theorem noGor : (Try.prog.funcs.all fun fn => fn.name != "runtime.NumGoroutine") = true := by kernel_rfl
theorem mixes : Try.prog.follows .mixedOrders = true := by kernel_rfl

theorem nil_a : Ae.good Try.prog (Ae.mixFacts [⟨.i64, none, none⟩, ⟨.i64, some 301, none⟩, ⟨.i64, some 0, none⟩] [(3, 1), (4, 2)]) 1000000 8 [.float .f64 3, .float .f64 4, .float .f64 0] = true := by kernel_rfl
theorem nil_b : Ae.good Try.prog (Ae.mixFacts [⟨.i64, none, none⟩, ⟨.i64, some 0, some 300⟩, ⟨.i64, some 301, none⟩] [(3, 1), (4, 2)]) 1000000 8 [.float .f64 3, .float .f64 4, .float .f64 0] = true := by kernel_rfl
theorem nil_c : Ae.good Try.prog (Ae.mixFacts [⟨.i64, none, none⟩, ⟨.i64, some 0, some 300⟩, ⟨.i64, some 0, some 300⟩] [(3, 1), (4, 2)]) 1000000 8 [.float .f64 3, .float .f64 4, .float .f64 0] = true := by kernel_rfl
end Go.Proofs.Ytmgcpfljhcahoaa
