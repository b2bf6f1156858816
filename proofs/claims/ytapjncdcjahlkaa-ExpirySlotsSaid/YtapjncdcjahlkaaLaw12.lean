/- ExpiryNil, ExpirySlots, by the abstract evaluator. -/
import Derived.Test.YtapjncdcjahlkaaAeFacts
namespace Go.Proofs.Ytapjncdcjahlkaa
open Go.RowKit

theorem noGor : (Try.prog.funcs.all fun fn => fn.name != "runtime.NumGoroutine") = true := by kernel_rfl
theorem mixes : Try.prog.follows .mixedOrders = true := by kernel_rfl

theorem expiryNil_good : Ae.good Try.prog Ae.noFacts 1000000 6 [.float .f64 0, .float .f64 1] = true := by kernel_rfl

theorem lExpiryNil (n t : Int) (w : World) : Calls Try.prog 6 #[.int .i64 n, .int .u64 t] w fun e w' => e = .returned (.bool true) ∧ Below w.heap.size w w' :=
  Ae.good_ok noGor mixes (σ := fun i => if i = 0 then .int .i64 n else .int .u64 t) (fun i => by by_cases h : i = 0 <;> simp [h, Value.oneCell']) Ae.noFacts_ok expiryNil_good (args' := [.int .i64 n, .int .u64 t]) (by simp [Ae.czl, Ae.cz]) w

theorem slots_a : Ae.good Try.prog (Ae.rangeFacts [⟨.i64, none, some (-1)⟩, ⟨.u64, none, none⟩]) 1000000 4 [.float .f64 0, .float .f64 1] = true := by kernel_rfl
theorem slots_b : Ae.good Try.prog (Ae.rangeFacts [⟨.i64, some 0, some 1048575⟩, ⟨.u64, none, none⟩]) 1000000 4 [.float .f64 0, .float .f64 1] = true := by kernel_rfl
theorem slots_c : Ae.good Try.prog (Ae.rangeFacts [⟨.i64, some 1048576, none⟩, ⟨.u64, none, none⟩]) 1000000 4 [.float .f64 0, .float .f64 1] = true := by kernel_rfl

theorem lExpirySlots (n t : Int) (w : World) : Calls Try.prog 4 #[.int .i64 n, .int .u64 t] w fun e w' => e = .returned (.bool true) ∧ Below w.heap.size w w' := by
  have any : Ae.InRng ⟨.u64, none, none⟩ t := ⟨fun l hl => (by cases hl), fun l hl => (by cases hl)⟩
  have one : ∀ v ∈ [Value.int .i64 n, .int .u64 t], v.oneCell' = true := by intro v hv; simp only [List.mem_cons, List.not_mem_nil, or_false] at hv; rcases hv with rfl | rfl <;> rfl
  have cs : Ae.czl ⟨fun _ => none, fun _ => 0, Ae.sig [.int .i64 n, .int .u64 t]⟩ [.float .f64 0, .float .f64 1] = some [.int .i64 n, .int .u64 t] := by simp [Ae.czl, Ae.cz, Ae.sig]
  rcases Int.lt_or_le n 0 with h | h
  · exact Ae.good_rng noGor mixes slots_a (l := [.int .i64 n, .int .u64 t]) ⟨⟨n, rfl, fun l hl => (by cases hl), fun l hl => (by cases hl; omega)⟩, ⟨t, rfl, any⟩, trivial⟩ one cs w
  · rcases Int.lt_or_le n 1048576 with h1 | h1
    · exact Ae.good_rng noGor mixes slots_b (l := [.int .i64 n, .int .u64 t]) ⟨⟨n, rfl, fun l hl => (by cases hl; exact h), fun l hl => (by cases hl; omega)⟩, ⟨t, rfl, any⟩, trivial⟩ one cs w
    · exact Ae.good_rng noGor mixes slots_c (l := [.int .i64 n, .int .u64 t]) ⟨⟨n, rfl, fun l hl => (by cases hl; exact h1), fun l hl => (by cases hl)⟩, ⟨t, rfl, any⟩, trivial⟩ one cs w
end Go.Proofs.Ytapjncdcjahlkaa
