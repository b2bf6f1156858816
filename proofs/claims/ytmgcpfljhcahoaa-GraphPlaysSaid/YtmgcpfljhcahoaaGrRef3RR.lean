/- What the reference of graphs computes: Reaches. -/
import Derived.Test.YtmgcpfljhcahoaaGrRef3R
namespace Go.Proofs.Ytmgcpfljhcahoaa
open Go Sy Tb Gr
set_option maxRecDepth 100000
set_option maxHeartbeats 4000000

/-! Reaches -/
theorem conRR : ConOk Try.prog (conOf [(40, SRKey.T), (17, SRSearch.T)]) :=
  conOf_cons (LSpec.call SRKey_nt SRKey_ok) (conOf_cons (LSpec.call SRSearch_nt SRSearch_ok) conOf_nil)
def SRReaches : LSpec where
  X := (Int × Int × List Ed) × Bs × Bs × Int
  k := 1
  pre x := x.1.2.2.length ≤ 10000
  args x θ := [rgV (θ 0) x.1.1 x.1.2.1 x.1.2.2, .str x.2.1, .str x.2.2.1, i64 x.2.2.2]
  objs x _ := [edR x.1.2.2]
  out x _ R := R (.tup [.sb (rReach x.1.2.2 x.2.1 x.2.2.1 x.2.2.2).1, i64 (rReach x.1.2.2 x.2.1 x.2.2.1 x.2.2.2).2.1, i64 (rReach x.1.2.2 x.2.1 x.2.2.1 x.2.2.2).2.2]) [some (edR x.1.2.2)]
theorem SRReaches_nt : SRReaches.Nt := ⟨fun _ _ => rfl, fun _ _ => rfl, fun _ _ _ h => h⟩
theorem SRReaches_ok : SRReaches.Ok Try.prog 15 := by
  refine LSpec.of_body noGo mixed conRR Try.func15 rfl (by kernel_rfl) fun ⟨⟨N, M, E⟩, a, b, most⟩ R hl hR => ?_
  have hl : E.length ≤ 10000 := hl
  have hQ : R (.tup [.sb (rReach E a b most).1, i64 (rReach E a b most).2.1, i64 (rReach E a b most).2.2]) [some (edR E)] := hR
  have bad : ¬ (validK a && validK b) = true → R (.tup [.sb false, i64 0, i64 2]) [some (edR E)] := fun q => by
    unfold rReach at hQ; rw [if_neg q] at hQ; exact hQ
  (conv => whnf)
  refine ⟨a, [], trivial, rfl, by (repeat' (first | exact True.intro | rfl | assumption | exact mc_ok rfl | exact mr_ok | exact fun _ => rfl | (refine And.intro ?_ ?_) | (intro _ _; rfl) | ((conv => whnf); (first | exact True.intro | (refine And.intro ?_ ?_))))), by (repeat' (first | exact True.intro | rfl | assumption | exact mc_ok rfl | exact mr_ok | exact fun _ => rfl | (refine And.intro ?_ ?_) | (intro _ _; rfl) | ((conv => whnf); (first | exact True.intro | (refine And.intro ?_ ?_))))), ?_⟩
  (conv => whnf)
  constructor
  · intro h1
    have h1 : validK a = true := not_f h1
    (conv => whnf)
    refine ⟨b, [], trivial, rfl, by (repeat' (first | exact True.intro | rfl | assumption | exact mc_ok rfl | exact mr_ok | exact fun _ => rfl | (refine And.intro ?_ ?_) | (intro _ _; rfl) | ((conv => whnf); (first | exact True.intro | (refine And.intro ?_ ?_))))), by (repeat' (first | exact True.intro | rfl | assumption | exact mc_ok rfl | exact mr_ok | exact fun _ => rfl | (refine And.intro ?_ ?_) | (intro _ _; rfl) | ((conv => whnf); (first | exact True.intro | (refine And.intro ?_ ?_))))), ?_⟩
    (conv => whnf)
    constructor
    · intro h2
      have h2 : validK b = true := not_f h2
      have hv : (validK a && validK b) = true := by rw [h1, h2]; rfl
      unfold rReach at hQ
      rw [if_pos hv] at hQ
      (conv => whnf)
      constructor
      · intro h3
        have h3 : most < 0 := of_decide_eq_true h3
        rw [if_pos h3] at hQ
        (conv => whnf)
        refine ⟨[], _, _, hQ, ?_⟩
        (repeat' (first | exact True.intro | rfl | assumption | exact mc_ok rfl | exact mr_ok | exact fun _ => rfl | (refine And.intro ?_ ?_) | (intro _ _; rfl) | ((conv => whnf); (first | exact True.intro | (refine And.intro ?_ ?_)))))
      · intro h3
        have h3 : ¬ most < 0 := of_decide_eq_false h3
        rw [if_neg h3] at hQ
        (conv => whnf)
        refine ⟨((N, M, E), a, b), [0], hl, rfl, by (repeat' (first | exact True.intro | rfl | assumption | exact mc_ok rfl | exact mr_ok | exact fun _ => rfl | (refine And.intro ?_ ?_) | (intro _ _; rfl) | ((conv => whnf); (first | exact True.intro | (refine And.intro ?_ ?_))))), by (repeat' (first | exact True.intro | rfl | assumption | exact mc_ok rfl | exact mr_ok | exact fun _ => rfl | (refine And.intro ?_ ?_) | (intro _ _; rfl) | ((conv => whnf); (first | exact True.intro | (refine And.intro ?_ ?_))))), ?_⟩
        (conv => whnf)
        constructor
        · intro h4
          have h4 : most < ((srch (chE E) a b).2 : Int) := of_decide_eq_true h4
          rw [if_pos h4] at hQ
          (conv => whnf)
          refine ⟨[], _, _, hQ, ?_⟩
          (repeat' (first | exact True.intro | rfl | assumption | exact mc_ok rfl | exact mr_ok | exact fun _ => rfl | (refine And.intro ?_ ?_) | (intro _ _; rfl) | ((conv => whnf); (first | exact True.intro | (refine And.intro ?_ ?_)))))
        · intro h4
          have h4 : ¬ most < ((srch (chE E) a b).2 : Int) := of_decide_eq_false h4
          rw [if_neg h4] at hQ
          (conv => whnf)
          refine ⟨[], _, _, hQ, ?_⟩
          (repeat' (first | exact True.intro | rfl | assumption | exact mc_ok rfl | exact mr_ok | exact fun _ => rfl | (refine And.intro ?_ ?_) | (intro _ _; rfl) | ((conv => whnf); (first | exact True.intro | (refine And.intro ?_ ?_)))))
    · intro h2
      have h2 : validK b = false := not_t h2
      have hB := bad (by rw [h2, Bool.and_false]; exact Bool.false_ne_true)
      (conv => whnf)
      (repeat' (first | (refine And.intro (fun hh => ?_) (fun hh => ?_) <;> first | (exfalso; simp [*] at hh; done) | (exfalso; simp_all; done) | (conv => whnf)) | fail))
      refine ⟨[], _, _, hB, ?_⟩
      (repeat' (first | exact True.intro | rfl | assumption | exact mc_ok rfl | exact mr_ok | exact fun _ => rfl | (refine And.intro ?_ ?_) | (intro _ _; rfl) | ((conv => whnf); (first | exact True.intro | (refine And.intro ?_ ?_)))))
  · intro h1
    have h1 : validK a = false := not_t h1
    have hB := bad (by rw [h1]; exact Bool.false_ne_true)
    (conv => whnf)
    (repeat' (first | (refine And.intro (fun hh => ?_) (fun hh => ?_) <;> first | (exfalso; simp [*] at hh; done) | (exfalso; simp_all; done) | (conv => whnf)) | fail))
    refine ⟨[], _, _, hB, ?_⟩
    (repeat' (first | exact True.intro | rfl | assumption | exact mc_ok rfl | exact mr_ok | exact fun _ => rfl | (refine And.intro ?_ ?_) | (intro _ _; rfl) | ((conv => whnf); (first | exact True.intro | (refine And.intro ?_ ?_)))))
end Go.Proofs.Ytmgcpfljhcahoaa
