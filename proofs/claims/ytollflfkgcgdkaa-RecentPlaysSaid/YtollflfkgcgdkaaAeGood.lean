/- The abstract evaluator is right: all of it. -/
import Derived.Test.YtollflfkgcgdkaaAeOrds
namespace Go.Proofs.Ytollflfkgcgdkaa
open Go Go.RowKit
namespace Ae

section
variable {P : Program} {B : Nat} {ρ : Ren} {s : ASt} {w : World} {o : Oper} {a : AAct} {act : Act} {y : Out} {F : Facts} {ev : Task → ASt → R Out} {r r' : Option Nat} {out : Out} {Q : Exit → Act → World → Prop} {ops : Array Oper}

theorem draw_ok (hN : ∀ (g : FuncId) (fn : Func), P.funcs[g]? = some fn → fn.name ≠ "runtime.NumGoroutine") (hmix : P.follows .mixedOrders = true) : DrawOk P F := by
  intro ev hS id ops a s out h B ρ w r' act hr hB hF ha
  have hst0 := drew_step hr
  have one : drawA P F ev ops ops.toList [] false [(0, s)] [] a s = .ok out → (Code.region id ops true).wpIn (FW r') 0 P (CodePost P B s ρ w out) act w := fun ho => by
    refine wpIn_region_any hmix ?_
    refine draw_any hN rfl hS ho hst0.rel hB (FactsAt.step hr hB hst0 hF) ha.t (fun act' ρ' w' h1 h2 h3 h4 h5 h6 _ => ?_) (Nat.le_refl _)
    refine ⟨ρ', Step.trans hr hst0 h1, ⟨by rw [h4]; exact h2, by rw [h5, h3]; exact ha.m.ext h1.ext⟩, ?_⟩
    rw [h6]
    trivial
  unfold regionA at h
  cases hl : loose ops with
  | true =>
    rw [hl, cond_true] at h
    split at h
    · rename_i o ho
      cases h
      exact multi_ok hN hmix hS ho hr hB hF ha
    · exact one h
  | false =>
    rw [hl, cond_false] at h
    split at h
    · rename_i o ho
      cases h
      exact one ho
    · rename_i c p ho
      obtain ⟨_, h⟩ | ⟨_, h⟩ : (Nat.beq c 135 = true ∧ multiA P F ev ops a s = .ok out) ∨ (Nat.beq c 135 = false ∧ R.err c p = .ok out) := by
        cases hb : Nat.beq c 135 with
        | true => rw [hb] at h; exact .inl ⟨rfl, h⟩
        | false => rw [hb] at h; exact .inr ⟨rfl, h⟩
      · exact multi_ok hN hmix hS h hr hB hF ha
      · cases h

/-- The whole. -/
theorem eval_ok (hN : ∀ (g : FuncId) (fn : Func), P.funcs[g]? = some fn → fn.name ≠ "runtime.NumGoroutine") (hmix : P.follows .mixedOrders = true) {σ : Nat → Value} (hσ : ∀ i, (σ i).oneCell' = true) (w : World) (hF : FactsAt P F w.heap.size ⟨fun _ => none, fun _ => 0, σ⟩ w) {n : Nat} {f : FuncId} {args args' : List Value}
    (h : run P F n (.call f args) ⟨0, 0, .leaf⟩ = .ok out) (hv : out.v = .bool true) (hc : czl ⟨fun _ => none, fun _ => 0, σ⟩ args = some args') :
    Calls P f args'.toArray w fun e w' => e = .returned (.bool true) ∧ Below w.heap.size w w' := by
  have hr : Rel P w.heap.size ⟨fun _ => none, fun _ => 0, σ⟩ ⟨0, 0, .leaf⟩ w :=
    ⟨fun i o h => by simp [Tr.get] at h, fun i j oi oj b d d' h => by simp [Tr.get] at h, fun i h => absurd h (Nat.not_lt_zero i), fun _ _ => rfl, fun i b d h => (by cases h), hσ⟩
  refine callsIn_wide.1 (CallsIn.mono ((run_ok hN (draw_ok hN hmix) n).call h hr (Nat.le_refl _) hF hc).2 fun e w' hp => ?_)
  obtain ⟨v', ρ', rfl, h1, h2⟩ := hp
  rw [hv] at h2
  simp only [cz, Option.some.injEq] at h2
  subst h2
  exact ⟨rfl, h1.os, h1.tape, h1.output, h1.size, fun k hk => h1.keep k hk fun i b d _ hi => absurd hi (Nat.not_lt_zero i)⟩

/-- A run that ends with true. -/
def good (P : Program) (F : Facts) (n : Nat) (f : FuncId) (args : List Value) : Bool := match run P F n (.call f args) ⟨0, 0, .leaf⟩ with
  | .ok o => match o.v with
    | .bool b => b
    | _ => false
  | .err _ _ => false

theorem good_at (hN : (P.funcs.all fun fn => fn.name != "runtime.NumGoroutine") = true) (hmix : P.follows .mixedOrders = true) {σ : Nat → Value} (hσ : ∀ i, (σ i).oneCell' = true) (w : World) (hF : FactsAt P F w.heap.size ⟨fun _ => none, fun _ => 0, σ⟩ w) {n : Nat} {f : FuncId} {args args' : List Value}
    (h : good P F n f args = true) (hc : czl ⟨fun _ => none, fun _ => 0, σ⟩ args = some args') :
    Calls P f args'.toArray w fun e w' => e = .returned (.bool true) ∧ Below w.heap.size w w' := by
  unfold good at h
  split at h
  · rename_i o ho
    split at h
    · rename_i b hv
      subst h
      refine eval_ok (fun g fn hg e => ?_) hmix hσ w hF ho hv hc
      have := Array.all_eq_true_iff_forall_mem.1 hN fn (Array.mem_of_getElem? hg)
      simp [e] at this
    · cases h
  · cases h

/-- Facts that hold in all worlds. -/
structure FactsAll (P : Program) (F : Facts) (σ : Nat → Value) : Prop where
  ok : FactsOk P F σ
  sums : ∀ B M, SumsAt P F B M σ
theorem FactsAll.at {ρ : Ren} (h : FactsAll P F ρ.σ) : FactsAt P F B ρ w := ⟨h.ok, fun k => w.heap[k]?, fun _ _ => rfl, h.sums _ _⟩
theorem good_ok (hN : (P.funcs.all fun fn => fn.name != "runtime.NumGoroutine") = true) (hmix : P.follows .mixedOrders = true) {σ : Nat → Value} (hσ : ∀ i, (σ i).oneCell' = true) (hF : FactsAll P F σ) {n : Nat} {f : FuncId} {args args' : List Value}
    (h : good P F n f args = true) (hc : czl ⟨fun _ => none, fun _ => 0, σ⟩ args = some args') (w : World) :
    Calls P f args'.toArray w fun e w' => e = .returned (.bool true) ∧ Below w.heap.size w w' :=
  good_at hN hmix hσ w (FactsAll.at (ρ := ⟨fun _ => none, fun _ => 0, σ⟩) hF) h hc

theorem noFacts_ok {σ : Nat → Value} : FactsAll P noFacts σ := ⟨⟨fun _ _ _ _ _ _ h => (by cases h), fun _ _ _ _ h => (by cases h), fun _ _ _ _ _ h => (by cases h)⟩, fun _ _ _ _ _ _ h => (by cases h)⟩
/-- Where nothing is unknown. -/
theorem good_known (hN : (P.funcs.all fun fn => fn.name != "runtime.NumGoroutine") = true) (hmix : P.follows .mixedOrders = true) {n : Nat} {f : FuncId} (h : good P noFacts n f [] = true) (w : World) :
    Calls P f #[] w fun e w' => e = .returned (.bool true) ∧ Below w.heap.size w w' := by
  refine good_ok hN hmix (σ := fun _ => .bool true) (fun _ => rfl) noFacts_ok h (args' := []) (by simp [czl]) w
end
end Ae
end Go.Proofs.Ytollflfkgcgdkaa
