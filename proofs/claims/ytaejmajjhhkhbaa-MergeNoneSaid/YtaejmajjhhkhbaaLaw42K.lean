/- The examples of the chapter 42 hold. -/
import Derived.Test.YtaejmajjhhkhbaaAeMemo
namespace Go.Proofs.Ytaejmajjhhkhbaa
open Go.RowKit

theorem noGor : (Try.prog.funcs.all fun fn => fn.name != "runtime.NumGoroutine") = true := by kernel_rfl
theorem mixes : Try.prog.follows .mixedOrders = true := by kernel_rfl
theorem known_true : Ae.good Try.prog (Ae.memoFacts Try.prog [8, 43]) 1000000 10 [] = true := by kernel_rfl
theorem known_any (w : World) : Calls Try.prog 10 #[] w fun e w' => e = .returned (.bool true) ∧ Below w.heap.size w w' :=
  Ae.good_ok noGor mixes (σ := fun _ => .bool true) (fun _ => rfl) (Ae.memoFacts_ok noGor mixes _ _) known_true (args' := []) (by simp [Ae.czl]) w
theorem known_ok (σ : Nat → Value) : Ae.CallOk Try.prog σ ⟨10, [], .bool true⟩ := Ae.known_fact ⟨_, Try.func10, rfl⟩ known_any
end Go.Proofs.Ytaejmajjhhkhbaa
