/- A call in a state that is said in other words first. -/
import Derived.Test.YtagpkejbbmpcgaaSyCR
namespace Go.Proofs.Ytagpkejbbmpcgaa
open Go Go.RowKit
namespace Sy
variable {md : Bool} {P : Program}
theorem Step.low {pr pr' : Nat} {s s' : St} {ρ ρ' : Ren} {w w' : World} (h : Step md pr s ρ w s' ρ' w') (hp : pr' ≤ pr) : Step md pr' s ρ w s' ρ' w' :=
  ⟨fun i hi => h.agree i (Nat.lt_of_lt_of_le hi hp), h.rel, h.keep, h.new, h.size, h.os, h.tape, h.output, by have := h.le; omega, h.drawn⟩
def recT (T : List V → St → (V → St → Prop) → Prop) (args : List V) (s : St) (K : V → St → Prop) : Prop := match s with
  | ⟨n, H⟩ => ∃ (L : List (Option Nat)) (S : List (Option SObj)) (args1 : List V) (k : Nat), Nat.beq S.length k = true ∧ castB n n L [] S = true ∧ objsC (phi n n L) ⟨n, H⟩ 0 S ∧ matchL (phi n n L) args1 args ∧ T args1 ⟨k, Tr.ofLO 0 S .leaf⟩ K
theorem rec_ok {T : List V → St → (V → St → Prop) → Prop} {f : FuncId} (h : ∀ args s K, T args s K → CallM md P f args s K) : ∀ args s K, recT T args s K → CallM md P f args s K := by
  intro args s K hh ρ w args' hr hc
  obtain ⟨n, H⟩ := s
  obtain ⟨L, S, args1, k, hk, g2, g3, g4, g5⟩ := hh
  have hk := Nat.eq_of_beq_eq_true hk
  subst hk
  have g6 := castL_ok (t := .leaf) (T := []) (s := ⟨n, H⟩) ⟨g2, g3, trivial⟩
  have st0 := (Step.refl (md := md) (pr := n) hr).cast g6.1
  have hn1 : n ≤ (locSO S).n := by have := Nat.eq_of_beq_eq_true g6.1.1; omega
  have key : ∀ {v' : Value} {w' : World} {v : V} {s' : St} {ρ' : Ren}, K v s' → Step md (locSO S).n (locSO S) (ρ.comp (phi n n L)) w s' ρ' w' → cz ρ' v = some v' → ∃ v s' ρ', K v s' ∧ Step md n ⟨n, H⟩ ρ w s' ρ' w' ∧ cz ρ' v = some v' :=
    fun k1 k2 k3 => ⟨_, _, _, k1, st0.trans (k2.low hn1), k3⟩
  rcases h args1 (locSO S) K g5 st0.rel (matchL_cz g4 hc) with ⟨h1, h2⟩ | ⟨v', w', h1, v, s', ρ', h2, h3, h4⟩
  · refine .inl ⟨h1, CallsIn.mono h2 fun e w' hp => ?_⟩
    obtain ⟨v', v, s', ρ', rfl, k1, k2, k3⟩ := hp
    obtain ⟨v, s', ρ', q1, q2, q3⟩ := key k1 k2 k3
    exact ⟨v', v, s', ρ', rfl, q1, q2, q3⟩
  · exact .inr ⟨v', w', h1, key h2 h3 h4⟩
end Sy
end Go.Proofs.Ytagpkejbbmpcgaa
