/- The examples of the chapter 12 hold. -/
import Derived.Test.YtapjncdcjahlkaaAeB
namespace Go.Proofs.Ytapjncdcjahlkaa
open Go.RowKit

theorem noGor : (Try.prog.funcs.all fun fn => fn.name != "runtime.NumGoroutine") = true := by kernel_rfl
theorem mixes : Try.prog.follows .mixedOrders = true := by kernel_rfl
theorem known_true : Ae.good Try.prog Ae.noFacts 1000000 8 [] = true := by kernel_rfl
theorem known_any (w : World) : Calls Try.prog 8 #[] w fun e w' => e = .returned (.bool true) ∧ Below w.heap.size w w' := Ae.good_known noGor mixes known_true w
end Go.Proofs.Ytapjncdcjahlkaa
