/- ExpiryNil, by the abstract evaluator. -/
import Derived.Test.YtapjncdcjahlkaaAeFacts
namespace Go.Proofs.Ytapjncdcjahlkaa
open Go.RowKit

theorem noGor : (Try.prog.funcs.all fun fn => fn.name != "runtime.NumGoroutine") = true := by kernel_rfl
theorem mixes : Try.prog.follows .mixedOrders = true := by kernel_rfl

theorem expiryNil_good : Ae.good Try.prog Ae.noFacts 1000000 6 [.float .f64 0, .float .f64 1] = true := by kernel_rfl

theorem lExpiryNil (n t : Int) (w : World) : Calls Try.prog 6 #[.int .i64 n, .int .u64 t] w fun e w' => e = .returned (.bool true) ∧ Below w.heap.size w w' :=
  Ae.good_ok noGor mixes (σ := fun i => if i = 0 then .int .i64 n else .int .u64 t) (fun i => by by_cases h : i = 0 <;> simp [h, Value.oneCell']) Ae.noFacts_ok expiryNil_good (args' := [.int .i64 n, .int .u64 t]) (by simp [Ae.czl, Ae.cz]) w
end Go.Proofs.Ytapjncdcjahlkaa
