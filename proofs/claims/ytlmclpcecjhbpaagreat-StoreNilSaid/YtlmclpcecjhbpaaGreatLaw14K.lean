/- The examples of the chapter 14 hold. -/
import Derived.Test.YtlmclpcecjhbpaaGreatAeFacts
namespace Go.Proofs.YtlmclpcecjhbpaaGreat
open Go.RowKit

theorem noGor : (Tryz.prog.funcs.all fun fn => fn.name != "runtime.NumGoroutine") = true := by kernel_rfl
theorem mixes : Tryz.prog.follows .mixedOrders = true := by kernel_rfl
theorem known_true : Ae.good Tryz.prog Ae.noFacts 1000000 11 [] = true := by kernel_rfl
theorem known_any (w : World) : Calls Tryz.prog 11 #[] w fun e w' => e = .returned (.bool true) ∧ Below w.heap.size w w' := Ae.good_known noGor mixes known_true w
theorem known_ok (σ : Nat → Value) : Ae.CallOk Tryz.prog σ ⟨11, [], .bool true⟩ := Ae.known_fact ⟨_, Tryz.func11, rfl⟩ known_any
end Go.Proofs.YtlmclpcecjhbpaaGreat
