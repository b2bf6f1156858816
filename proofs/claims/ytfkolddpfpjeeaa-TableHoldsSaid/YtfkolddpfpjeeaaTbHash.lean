/- What package hash computes, said of symbolic states. -/
import Derived.Test.YtfkolddpfpjeeaaSyTop
import Derived.Test.YtfkolddpfpjeeaaRef01
namespace Go.Proofs.Ytfkolddpfpjeeaa
open Go Sy
set_option maxRecDepth 100000

/-- A call that leaves the world as it is. -/
theorem pure_call {P : Program} {f : FuncId} {args : List V} {s : St} {K : V → St → Prop} {v : V} (hb : ∃ fn, P.funcs[f]? = some fn ∧ fn.body.isSome = true) (hK : K v s)
    (h : ∀ ρ args', czl ρ args = some args' → ∃ v', cz ρ v = some v' ∧ ∀ w, Calls P f args'.toArray w fun e w' => e = .returned v' ∧ w = w') : CallT P f args s K := by
  intro ρ w args' hr hc
  obtain ⟨v', hv, hcall⟩ := h ρ args' hc
  refine .inl ⟨hb, CallsIn.mono (callsIn_wide.2 (hcall w)) fun e w' hp => ?_⟩
  obtain ⟨rfl, rfl⟩ := hp
  exact ⟨v', v, s, ρ, rfl, hK, Step.refl hr, hv⟩
def sumT (args : List V) (s : St) (K : V → St → Prop) : Prop := match args with
  | [.int .u64 h, .str b] => b.size ≤ 1000000 ∧ (0 ≤ h ∧ h < 18446744073709551616) ∧ K (.int .u64 (sumI h b.data.toList)) s
  | _ => False
theorem sumT_ok : ∀ args s K, sumT args s K → CallT Try.prog 26 args s K := by
  intro args s K h
  unfold sumT at h
  split at h
  · obtain ⟨h1, _, h3⟩ := h
    refine pure_call ⟨_, Try.func26, rfl⟩ h3 fun ρ args' hc => ⟨_, rfl, fun w => ?_⟩
    simp only [czl, cz, Option.some.injEq] at hc
    subst hc
    exact sum_any _ _ w (by unfold maxLen; omega)
  · exact h.elim
theorem rsumT_ok : ∀ args s K, sumT args s K → CallT Try.prog 51 args s K := by
  intro args s K h
  unfold sumT at h
  split at h
  · obtain ⟨h1, h2, h3⟩ := h
    refine pure_call ⟨_, Try.func51, rfl⟩ h3 fun ρ args' hc => ⟨_, rfl, fun w => ?_⟩
    simp only [czl, cz, Option.some.injEq] at hc
    subst hc
    exact sumr_any _ _ w (by unfold maxLen; omega) h2
  · exact h.elim
def indexT (args : List V) (s : St) (K : V → St → Prop) : Prop := match args with
  | [.int .u64 x, .int .i64 n] => (0 ≤ x ∧ x < 18446744073709551616) ∧ isSize n = true ∧ K (.tup [.int .i64 (x % n), .int .i64 0]) s
  | _ => False
theorem indexT_ok : ∀ args s K, indexT args s K → CallT Try.prog 25 args s K := by
  intro args s K h
  unfold indexT at h
  split at h
  · obtain ⟨h1, h2, h3⟩ := h
    refine pure_call ⟨_, Try.func25, rfl⟩ h3 fun ρ args' hc => ⟨_, rfl, fun w => ?_⟩
    simp only [czl, cz, Option.some.injEq] at hc
    subst hc
    exact index_yes _ _ w h1 h2
  · exact h.elim
end Go.Proofs.Ytfkolddpfpjeeaa
