/- Calls whose results hang on memory that stays: facts in worlds whose blocks below B are as they were. -/
import Derived.Test.YtaejmajjhhkhbaaAeFacts2
namespace Go.Proofs.Ytaejmajjhhkhbaa
open Go Go.RowKit
namespace Ae

def sameVs : List Value → List Value → Bool
  | [], [] => true
  | u :: l, v :: m => sameV u v && sameVs l m
  | _, _ => false
theorem sameVs_eq : ∀ {l m : List Value}, sameVs l m = true → l = m
  | [], [], _ => rfl
  | u :: l, v :: m, h => by
    simp only [sameVs, Bool.and_eq_true] at h
    rw [sameV_eq h.1, sameVs_eq h.2]
  | [], _ :: _, h => by cases h
  | _ :: _, [], h => by cases h
def sumG : List CallFact → FuncId → List Value → ASt → Option Out
  | [], _, _, _ => none
  | c :: cs, f, args, s => bif Nat.beq f c.f && sameVs args c.args then some ⟨.normal, noAct, c.r, s⟩ else sumG cs f args s
def atFacts (rs : List Rng) (ls : List (Nat × Nat)) (cs : List CallFact) (os : List OpFact) : Facts := { bin := rangeF rs, len := lenOf ls, sum := sumG cs, op := opF os }

def CallOkAt (P : Program) (σ : Nat → Value) (B : Nat) (M : Nat → Option Obj) (c : CallFact) : Prop := ∃ a' r', czl (ren0 σ) c.args = some a' ∧ cz (ren0 σ) c.r = some r' ∧ (∃ fn, P.funcs[c.f]? = some fn ∧ fn.body.isSome = true) ∧
  ∀ w, B ≤ w.heap.size → (∀ k, k < B → w.heap[k]? = M k) → Calls P c.f a'.toArray w fun e w' => e = .returned r' ∧ Below w.heap.size w w'
theorem CallOk.at {P : Program} {σ : Nat → Value} {c : CallFact} (h : CallOk P σ c) (B : Nat) (M : Nat → Option Obj) : CallOkAt P σ B M c := by
  obtain ⟨a', r', h1, h2, h3, h4⟩ := h
  exact ⟨a', r', h1, h2, h3, fun w _ _ => h4 w⟩

theorem sumG_ok {P : Program} {σ : Nat → Value} {B : Nat} {M : Nat → Option Obj} : ∀ {cs : List CallFact}, (∀ c ∈ cs, CallOkAt P σ B M c) → ∀ f args s out, sumG cs f args s = some out → ∀ {ρ w args'}, ρ.σ = σ → Rel P B ρ s w → B ≤ w.heap.size → (∀ k, k < B → w.heap[k]? = M k) → czl ρ args = some args' →
    (∃ fn, P.funcs[f]? = some fn ∧ fn.body.isSome = true) ∧ CallsIn Fence.wide 0 P f args'.toArray w (CallPost P B s ρ w out)
  | [], _, _, _, _, _, h => by cases h
  | c :: cs, hcs, f, args, s, out, h => by
    intro hσ hr hB hM hc
    simp only [sumG] at h
    cases hb : Nat.beq f c.f && sameVs args c.args with
    | true =>
      rw [hb, cond_true] at h
      simp only [Bool.and_eq_true] at hb
      have e1 := Nat.eq_of_beq_eq_true hb.1
      have e2 := sameVs_eq hb.2
      subst e1 e2
      cases h
      obtain ⟨a', r', g1, g2, g3, g4⟩ := hcs c (List.mem_cons_self ..)
      have := czl_ext (ext0 hσ) _ g1
      rw [hc] at this
      cases this
      exact ⟨g3, CallsIn.mono (callsIn_wide.2 (g4 _ hB hM)) fun e w' ⟨he, hb⟩ => ⟨r', _, he, Step.more hr hb, cz_ext (ext0 hσ) _ g2⟩⟩
    | false =>
      rw [hb, cond_false] at h
      exact sumG_ok (fun c hc => hcs c (List.mem_cons_of_mem _ hc)) f args s out h hσ hr hB hM hc

theorem good_mem {P : Program} (hN : (P.funcs.all fun fn => fn.name != "runtime.NumGoroutine") = true) (hmix : P.follows .mixedOrders = true) {rs : List Rng} {ls : List (Nat × Nat)} {cs : List CallFact} {os : List OpFact} {n : Nat} {f : FuncId} {args : List Value} (h : good P (atFacts rs ls cs os) n f args = true)
    {l args' : List Value} (hl : RngOk rs l) (hs : LensOk ls l) (w : World) (hcs : ∀ c ∈ cs, CallOkAt P (sig l) w.heap.size (fun k => w.heap[k]?) c) (hos : ∀ c ∈ os, OpOk P (sig l) c) (h1 : ∀ v ∈ l, v.oneCell' = true) (hc : czl ⟨fun _ => none, fun _ => 0, sig l⟩ args = some args') :
    Calls P f args'.toArray w fun e w' => e = .returned (.bool true) ∧ Below w.heap.size w w' :=
  have ok : FactsOk P (atFacts rs ls cs os) (sig l) := ⟨(mix_ok (P := P) hl hs).ok.bin, (mix_ok (P := P) hl hs).ok.len, opF_ok hos⟩
  good_at hN hmix (sig_one h1) w ⟨ok, fun k => w.heap[k]?, fun _ _ => rfl, fun f args s out h _ _ _ hσ hr hB hM hcz => sumG_ok hcs f args s out h hσ hr hB hM hcz⟩ h hc
end Ae
end Go.Proofs.Ytaejmajjhhkhbaa
