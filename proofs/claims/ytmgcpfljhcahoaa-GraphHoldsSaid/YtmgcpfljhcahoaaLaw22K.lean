/- The examples of the chapter 22 hold. -/
import Derived.Test.YtmgcpfljhcahoaaAeB
namespace Go.Proofs.Ytmgcpfljhcahoaa
open Go.RowKit

theorem noGor : (Try.prog.funcs.all fun fn => fn.name != "runtime.NumGoroutine") = true := by kernel_rfl
theorem mixes : Try.prog.follows .mixedOrders = true := by kernel_rfl
theorem known_true : Ae.good Try.prog Ae.noFacts 1000000 11 [] = true := by kernel_rfl
theorem known_any (w : World) : Calls Try.prog 11 #[] w fun e w' => e = .returned (.bool true) ∧ Below w.heap.size w w' := Ae.good_known noGor mixes known_true w
theorem known_ok (σ : Nat → Value) : Ae.CallOk Try.prog σ ⟨11, [], .bool true⟩ := Ae.known_fact ⟨_, Try.func11, rfl⟩ known_any
end Go.Proofs.Ytmgcpfljhcahoaa
