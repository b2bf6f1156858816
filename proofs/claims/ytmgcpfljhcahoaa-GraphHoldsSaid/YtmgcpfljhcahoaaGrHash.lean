/- What hash.Sum computes, said of symbolic states. -/
import Derived.Test.YtmgcpfljhcahoaaSyC
import Derived.Test.YtmgcpfljhcahoaaHashSum
namespace Go.Proofs.Ytmgcpfljhcahoaa
open Go Sy
set_option maxRecDepth 100000

/-- A call that leaves the world as it is. -/
theorem pure_call {P : Program} {f : FuncId} {args : List V} {s : St} {K : V → St → Prop} {v : V} (hb : ∃ fn, P.funcs[f]? = some fn ∧ fn.body.isSome = true) (hK : K v s)
    (h : ∀ ρ args', czl ρ args = some args' → ∃ v', cz ρ v = some v' ∧ ∀ w, Calls P f args'.toArray w fun e w' => e = .returned v' ∧ w = w') : CallT P f args s K := by
  intro ρ w args' hr hc
  obtain ⟨v', hv, hcall⟩ := h ρ args' hc
  refine .inl ⟨hb, CallsIn.mono (callsIn_wide.2 (hcall w)) fun e w' hp => ?_⟩
  obtain ⟨rfl, rfl⟩ := hp
  exact ⟨v', v, s, ρ, rfl, hK, Step.refl hr, hv⟩
def sumT (args : List V) (s : St) (K : V → St → Prop) : Prop := match args with
  | [.int .u64 h, .str b] => b.size ≤ 1000000 ∧ (0 ≤ h ∧ h < 18446744073709551616) ∧ K (.int .u64 (sumI h b.data.toList)) s
  | _ => False
theorem sumT_ok : ∀ args s K, sumT args s K → CallT Try.prog 70 args s K := by
  intro args s K h
  unfold sumT at h
  split at h
  · obtain ⟨h1, _, h3⟩ := h
    refine pure_call ⟨_, Try.func70, rfl⟩ h3 fun ρ args' hc => ⟨_, rfl, fun w => ?_⟩
    simp only [czl, cz, Option.some.injEq] at hc
    subst hc
    exact sum_any _ _ w (by unfold maxLen; omega)
  · exact h.elim
end Go.Proofs.Ytmgcpfljhcahoaa
