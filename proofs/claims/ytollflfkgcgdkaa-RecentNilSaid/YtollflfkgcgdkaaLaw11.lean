/- RecentNil, by the abstract evaluator. -/
import Derived.Test.YtollflfkgcgdkaaAeDraw3
namespace Go.Proofs.Ytollflfkgcgdkaa
open Go.RowKit

theorem noGor : (Try.prog.funcs.all fun fn => fn.name != "runtime.NumGoroutine") = true := by kernel_rfl
theorem mixes : Try.prog.follows .mixedOrders = true := by kernel_rfl

theorem recentNil_good : Ae.good Try.prog Ae.noFacts 1000000 7 [.float .f64 0] = true := by kernel_rfl

theorem lRecentNil (n : Int) (w : World) : Calls Try.prog 7 #[.int .i64 n] w fun e w' => e = .returned (.bool true) ∧ Below w.heap.size w w' :=
  Ae.good_ok noGor mixes (σ := fun _ => .int .i64 n) (fun _ => rfl) Ae.noFacts_ok recentNil_good (args' := [.int .i64 n]) (by simp [Ae.czl, Ae.cz]) w
end Go.Proofs.Ytollflfkgcgdkaa
