/- What the reference of cascades computes: free. -/
import Derived.Test.YtddionboojdjlaaK10CascadeNil
import Derived.Test.YtddionboojdjlaaCaTopoR
import Derived.Test.YtddionboojdjlaaGrRef2R
namespace Go.Proofs.Ytddionboojdjlaa
open Go Sy Tb Gr
set_option maxRecDepth 100000
set_option maxHeartbeats 2000000

theorem conFr : ConOk Try.prog (conOf [(61, SRParents.T), (30, SRHas.T)]) := conOf_cons (LSpec.call SRParents_nt SRParents_ok) (conOf_cons (LSpec.call SRHas_nt SRHas3_ok) conOf_nil)
def SFree : LSpec where
  X := (Int × Int × List Ed) × Bs × List Bs
  k := 2
  pre x := x.1.2.2.length ≤ 20000 ∧ x.2.2.length ≤ 1000000
  args x θ := [rgV (θ 0) x.1.1 x.1.2.1 x.1.2.2, .str x.2.1, .sl (θ 1) 0 1 x.2.2.length false]
  objs x _ := [edR x.1.2.2, stR x.2.2]
  out x _ R := R (.sb (freeB x.1.2.2 x.2.1 x.2.2)) [some (edR x.1.2.2), some (stR x.2.2)]
theorem SFree_nt : SFree.Nt := ⟨fun _ _ => rfl, fun _ _ => rfl, fun _ _ _ h => h⟩
theorem SFree_ok : SFree.Ok Try.prog 35 := by
  refine LSpec.of_body noGo mixed conFr Try.func35 rfl (by kernel_rfl) fun ⟨⟨N, M, E⟩, k, C⟩ R ⟨hl, hc⟩ hR => ?_
  have hl : E.length ≤ 20000 := hl
  have hc : C.length ≤ 1000000 := hc
  have hQ : R (.sb (freeB E k C)) [some (edR E), some (stR C)] := hR
  have hp := prE_len E k
  (conv => whnf)
  refine ⟨((N, M, E), k), [0], hl, rfl, by (repeat' (first | exact True.intro | rfl | assumption | exact mc_ok rfl | exact mr_ok | exact fun _ => rfl | (refine And.intro ?_ ?_) | (intro _ _; rfl) | ((conv => whnf); (first | exact True.intro | (refine And.intro ?_ ?_))))), by (repeat' (first | exact True.intro | rfl | assumption | exact mc_ok rfl | exact mr_ok | exact fun _ => rfl | (refine And.intro ?_ ?_) | (intro _ _; rfl) | ((conv => whnf); (first | exact True.intro | (refine And.intro ?_ ?_))))), ?_⟩
  unfold freeB at hQ
  generalize hL : prE E k = L at *
  (conv => whnf)
  refine .inl ⟨Nat, fun i => [(2, .sl 1 0 1 C.length false), (7, .sl 2 0 1 L.length false), (8, i64 i)], fun _ => [some (edR E), some (stR C), some (stR L)], fun i => L.length - i, fun i => i ≤ L.length ∧ ∀ j, j < i → hasB C (L.getD j eS) = true, 3, ⟨0, [some 3], ⟨Nat.zero_le _, fun j hj => absurd hj (Nat.not_lt_zero j)⟩, ?_⟩, fun _ => rfl, fun i ⟨hi, hb⟩ => ?_⟩
  · (repeat' (first | exact True.intro | rfl | assumption | exact mc_ok rfl | exact mr_ok | exact fun _ => rfl | (refine And.intro ?_ ?_) | (intro _ _; rfl) | ((conv => whnf); (first | exact True.intro | (refine And.intro ?_ ?_)))))
    all_goals first
      | exact congrArg List.length hL.symm
      | exact congrArg (fun l : List Bs => (l.length : Int)) hL.symm
      | (intro q _
         show [V.str (L.getD q eS)] = [V.str ((prE E k).getD q eS)]
         rw [hL])
  have hi : i ≤ L.length := hi
  have ei := zero_add_toNat i
  (conv => whnf)
  constructor
  · intro h
    have h : i < L.length := by have : (i : Int) < (L.length : Int) := of_decide_eq_true h; omega
    (conv => whnf)
    refine ⟨by show (0 : Int) ≤ (i : Int); omega, by show (i : Int) < (L.length : Int); omega, ?_⟩
    (conv => whnf)
    refine ⟨by rw [ei]; exact h, ?_⟩
    (conv => whnf)
    refine ⟨(C, L.getD (0 + (i : Int).toNat) eS), [1], hc, rfl, by (repeat' (first | exact True.intro | rfl | assumption | exact mc_ok rfl | exact mr_ok | exact fun _ => rfl | (refine And.intro ?_ ?_) | (intro _ _; rfl) | ((conv => whnf); (first | exact True.intro | (refine And.intro ?_ ?_))))), by (repeat' (first | exact True.intro | rfl | assumption | exact mc_ok rfl | exact mr_ok | exact fun _ => rfl | (refine And.intro ?_ ?_) | (intro _ _; rfl) | ((conv => whnf); (first | exact True.intro | (refine And.intro ?_ ?_))))), ?_⟩
    (conv => whnf)
    constructor
    · intro h2
      have h2 : hasB C (L.getD (0 + (i : Int).toNat) eS) = false := not_t h2
      rw [ei] at h2
      rw [all_at h h2] at hQ
      (conv => whnf)
      refine ⟨[], _, _, hQ, ?_⟩
      (repeat' (first | exact True.intro | rfl | assumption | exact mc_ok rfl | exact mr_ok | exact fun _ => rfl | (refine And.intro ?_ ?_) | (intro _ _; rfl) | ((conv => whnf); (first | exact True.intro | (refine And.intro ?_ ?_)))))
    · intro h2
      have h2 : hasB C (L.getD (0 + (i : Int).toNat) eS) = true := not_f h2
      rw [ei] at h2
      (conv => whnf)
      refine ⟨i + 1, [some 2], by show L.length - (i + 1) < L.length - i; omega, ⟨by show i + 1 ≤ L.length; omega, fun j hj => ?_⟩, ?_⟩
      · rcases Nat.lt_or_ge j i with q | q
        · exact hb j q
        · obtain rfl : j = i := by have : j < i + 1 := hj; omega
          exact h2
      (repeat' (first | exact True.intro | rfl | assumption | exact mc_ok rfl | exact mr_ok | exact fun _ => rfl | (refine And.intro ?_ ?_) | (intro _ _; rfl) | ((conv => whnf); (first | exact True.intro | (refine And.intro ?_ ?_)))))
      exact (wrap_inc h (by omega)).symm
  · intro h
    have h : ¬ i < L.length := by have : ¬ (i : Int) < (L.length : Int) := of_decide_eq_false h; omega
    obtain rfl : i = L.length := by omega
    rw [all_to hb] at hQ
    (conv => whnf)
    refine ⟨[], _, _, hQ, ?_⟩
    (repeat' (first | exact True.intro | rfl | assumption | exact mc_ok rfl | exact mr_ok | exact fun _ => rfl | (refine And.intro ?_ ?_) | (intro _ _; rfl) | ((conv => whnf); (first | exact True.intro | (refine And.intro ?_ ?_)))))
end Go.Proofs.Ytddionboojdjlaa
