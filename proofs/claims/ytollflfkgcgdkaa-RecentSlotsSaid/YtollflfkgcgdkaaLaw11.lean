/- RecentNil, by the abstract evaluator. -/
import Derived.Test.YtollflfkgcgdkaaAeFacts
namespace Go.Proofs.Ytollflfkgcgdkaa
open Go.RowKit

theorem noGor : (Try.prog.funcs.all fun fn => fn.name != "runtime.NumGoroutine") = true := by kernel_rfl
theorem mixes : Try.prog.follows .mixedOrders = true := by kernel_rfl

theorem recentNil_good : Ae.good Try.prog Ae.noFacts 1000000 7 [.float .f64 0] = true := by kernel_rfl

theorem lRecentNil (n : Int) (w : World) : Calls Try.prog 7 #[.int .i64 n] w fun e w' => e = .returned (.bool true) ∧ Below w.heap.size w w' :=
  Ae.good_ok noGor mixes (σ := fun _ => .int .i64 n) (fun _ => rfl) Ae.noFacts_ok recentNil_good (args' := [.int .i64 n]) (by simp [Ae.czl, Ae.cz]) w

theorem slots_a : Ae.good Try.prog (Ae.rangeFacts [⟨.i64, none, some (-2)⟩]) 1000000 3 [.float .f64 0] = true := by kernel_rfl
theorem slots_b : Ae.good Try.prog Ae.noFacts 1000000 3 [.int .i64 (-1)] = true := by kernel_rfl
theorem slots_c : Ae.good Try.prog (Ae.rangeFacts [⟨.i64, some 0, some 1048575⟩]) 1000000 3 [.float .f64 0] = true := by kernel_rfl
theorem slots_d : Ae.good Try.prog (Ae.rangeFacts [⟨.i64, some 1048576, none⟩]) 1000000 3 [.float .f64 0] = true := by kernel_rfl

theorem one_rng {n : Int} {lo hi : Option Int} (h : Ae.InRng ⟨.i64, lo, hi⟩ n) : ∀ i r, [(⟨.i64, lo, hi⟩ : Ae.Rng)][i]? = some r → ∃ x, (fun _ => Value.int .i64 n : Nat → Value) i = .int r.k x ∧ Ae.InRng r x := by
  intro i r hr
  cases i with
  | zero =>
    simp only [List.getElem?_cons_zero, Option.some.injEq] at hr
    subst hr
    exact ⟨n, rfl, h⟩
  | succ i => simp at hr

theorem lRecentSlots (n : Int) (w : World) : Calls Try.prog 3 #[.int .i64 n] w fun e w' => e = .returned (.bool true) ∧ Below w.heap.size w w' := by
  rcases Int.lt_or_le n (-1) with h | h
  · exact Ae.good_ok noGor mixes (σ := fun _ => .int .i64 n) (fun _ => rfl) (Ae.rangeFacts_ok (one_rng ⟨fun l hl => (by cases hl), fun l hl => (by cases hl; omega)⟩)) slots_a (args' := [.int .i64 n]) (by simp [Ae.czl, Ae.cz]) w
  · rcases Int.lt_or_le n 0 with h0 | h0
    · obtain rfl : n = -1 := by omega
      exact Ae.good_ok noGor mixes (σ := fun _ => .int .i64 0) (fun _ => rfl) Ae.noFacts_ok slots_b (args' := [.int .i64 (-1)]) (by simp [Ae.czl, Ae.cz]) w
    · rcases Int.lt_or_le n 1048576 with h1 | h1
      · exact Ae.good_ok noGor mixes (σ := fun _ => .int .i64 n) (fun _ => rfl) (Ae.rangeFacts_ok (one_rng ⟨fun l hl => (by cases hl; exact h0), fun l hl => (by cases hl; omega)⟩)) slots_c (args' := [.int .i64 n]) (by simp [Ae.czl, Ae.cz]) w
      · exact Ae.good_ok noGor mixes (σ := fun _ => .int .i64 n) (fun _ => rfl) (Ae.rangeFacts_ok (one_rng ⟨fun l hl => (by cases hl; exact h1), fun l hl => (by cases hl)⟩)) slots_d (args' := [.int .i64 n]) (by simp [Ae.czl, Ae.cz]) w
end Go.Proofs.Ytollflfkgcgdkaa
