/- Calls of functions that look at their arguments alone, as facts: each is run once, where there is no memory. -/
import Derived.Test.YtaejmajjhhkhbaaAeFacts
namespace Go.Proofs.Ytaejmajjhhkhbaa
open Go Go.RowKit
namespace Ae

/-- Values, written out: so that the same arguments are the same text. -/
def force1 {β : Type} (v : Value) (k : Value → R β) : R β := match v with
  | .int i n => intK n fun n => k (.int i n)
  | .bool b => boolK b fun b => k (.bool b)
  | .string s => k (.string s)
  | v => k v
def forceL {β : Type} : List Value → (List Value → R β) → R β
  | [], k => k []
  | v :: l, k => force1 v fun v => forceL l fun l => k (v :: l)
def forceV {β : Type} (v : Value) (k : Value → R β) : R β := match v with
  | .agg a => forceL a.toList fun l => k (.agg l.toArray)
  | v => force1 v k
def forceA {β : Type} : List Value → (List Value → R β) → R β
  | [], k => k []
  | v :: l, k => forceV v fun v => forceA l fun l => k (v :: l)
def memoF (P : Program) (gs : List FuncId) (f : FuncId) (args : List Value) (s : ASt) : Option Out :=
  bif gs.any (Nat.beq f) && args.all plain then match forceA args fun args => run P noFacts 100000 (.call f args) ⟨0, 0, .leaf⟩ with
    | .ok o => bif plain o.v then some ⟨.normal, noAct, o.v, s⟩ else none
    | .err _ _ => none
  else none

theorem force1_ok {β : Type} {v : Value} {k : Value → R β} {y : β} (h : force1 v k = .ok y) : k v = .ok y := by
  unfold force1 at h
  split at h
  · exact intK_ok (k := fun n => k (.int _ n)) h
  · exact boolK_ok (k := fun b => k (.bool b)) h
  · exact h
  · exact h
theorem forceL_ok {β : Type} {y : β} : ∀ {l : List Value} {k : List Value → R β}, forceL l k = .ok y → k l = .ok y
  | [], _, h => h
  | v :: l, k, h => forceL_ok (l := l) (k := fun l => k (v :: l)) (force1_ok (k := fun v => forceL l fun l => k (v :: l)) h)
theorem forceV_ok {β : Type} {v : Value} {k : Value → R β} {y : β} (h : forceV v k = .ok y) : k v = .ok y := by
  unfold forceV at h
  split at h
  · rename_i a
    have := forceL_ok (k := fun l => k (.agg l.toArray)) h
    simpa using this
  · exact force1_ok h
theorem forceA_ok {β : Type} {y : β} : ∀ {l : List Value} {k : List Value → R β}, forceA l k = .ok y → k l = .ok y
  | [], _, h => h
  | v :: l, k, h => forceA_ok (l := l) (k := fun l => k (v :: l)) (forceV_ok (k := fun v => forceA l fun l => k (v :: l)) h)

theorem czl_plains {ρ : Ren} : ∀ {l : List Value}, l.all plain = true → czl ρ l = some l
  | [], _ => by simp [czl]
  | v :: l, h => by
    simp only [List.all_cons, Bool.and_eq_true] at h
    simp [czl, cz_plain h.1, czl_plains h.2]

theorem memoF_ok {P : Program} (hN : (P.funcs.all fun fn => fn.name != "runtime.NumGoroutine") = true) (hmix : P.follows .mixedOrders = true) {gs : List FuncId} {f : FuncId} {args : List Value} {s : ASt} {out : Out} (h : memoF P gs f args s = some out) {B : Nat} {ρ : Ren} {w : World} {args' : List Value}
    (hr : Rel P B ρ s w) (hc : czl ρ args = some args') : (∃ fn, P.funcs[f]? = some fn ∧ fn.body.isSome = true) ∧ CallsIn Fence.wide 0 P f args'.toArray w (CallPost P B s ρ w out) := by
  unfold memoF at h
  cases hb : gs.any (Nat.beq f) && args.all plain with
  | false => rw [hb, cond_false] at h; cases h
  | true =>
    rw [hb, cond_true] at h
    simp only [Bool.and_eq_true] at hb
    split at h
    · rename_i o ho
      have ho := forceA_ok ho
      cases hp : plain o.v with
      | false => rw [hp, cond_false] at h; cases h
      | true =>
        rw [hp, cond_true] at h
        cases h
        rw [czl_plains hb.2] at hc
        cases hc
        have hN' : ∀ (g : FuncId) (fn : Func), P.funcs[g]? = some fn → fn.name ≠ "runtime.NumGoroutine" := fun g fn hg e => by
          have := Array.all_eq_true_iff_forall_mem.1 hN fn (Array.mem_of_getElem? hg)
          simp [e] at this
        have hr0 : Rel P w.heap.size (ren0 fun _ => .bool true) ⟨0, 0, .leaf⟩ w :=
          ⟨fun i o h => by simp [Tr.get] at h, fun i j oi oj b d d' h => by simp [Tr.get] at h, fun i h => absurd h (Nat.not_lt_zero i), fun _ _ => rfl, fun i b d h => (by cases h), fun _ => rfl⟩
        have hcall := (run_ok hN' (draw_ok hN' hmix) 100000).call ho hr0 (Nat.le_refl _) (FactsAll.at noFacts_ok) (czl_plains hb.2)
        refine ⟨hcall.1, CallsIn.mono hcall.2 fun e w' hp' => ?_⟩
        obtain ⟨v', ρ', rfl, h1, h2⟩ := hp'
        rw [cz_plain hp] at h2
        cases h2
        exact ⟨_, ρ, rfl, Step.more hr ⟨h1.os, h1.tape, h1.output, h1.size, fun k hk => h1.keep k hk fun i b d _ hi => absurd hi (Nat.not_lt_zero i)⟩, cz_plain hp⟩
    · cases h

def memoFacts (P : Program) (gs : List FuncId) : Facts := { bin := fun _ _ _ => none, len := fun _ => none, sum := memoF P gs }
theorem memoFacts_ok {P : Program} (hN : (P.funcs.all fun fn => fn.name != "runtime.NumGoroutine") = true) (hmix : P.follows .mixedOrders = true) (gs : List FuncId) (σ : Nat → Value) : FactsAll P (memoFacts P gs) σ :=
  ⟨⟨fun _ _ _ _ _ _ h => (by cases h), fun _ _ _ _ h => (by cases h), fun _ _ _ _ _ h => (by cases h)⟩, fun _ _ _ _ _ _ h _ _ _ _ hr _ _ hc => memoF_ok hN hmix h hr hc⟩
end Ae
end Go.Proofs.Ytaejmajjhhkhbaa
