/- GraphSearches: the walk. -/
import Derived.Test.YtmgcpfljhcahoaaGrMade
import Derived.Test.YtmgcpfljhcahoaaLaw22K
import Derived.Test.YtmgcpfljhcahoaaSyTop
import Derived.Test.YtmgcpfljhcahoaaSyOpen
namespace Go.Proofs.Ytmgcpfljhcahoaa
open Go Go.RowKit Sy Tb Gr
set_option maxRecDepth 100000
set_option maxHeartbeats 4000000

theorem srch_small (E : List Ed) (a b : Bs) : ((srch (chE E) a b).2 : Int) ≤ E.length := by have := srch_le E a b; omega
theorem conSe : ConOk Try.prog (conOf [(11, trueT), (13, SEdges.T), (14, SMade.T), (16, SLReach.T), (15, SRReaches.T), (17, SRSearch.T)]) :=
  conOf_cons (true_ok ⟨_, Try.func11, rfl⟩ known_any) (conOf_cons (LSpec.call SEdges_nt SEdges_ok) (conOf_cons (LSpec.call SMade_nt SMade_ok) (conOf_cons (LSpec.call SLReach_nt SLReach_ok) (conOf_cons (LSpec.call SRReaches_nt SRReaches_ok) (conOf_cons (LSpec.call SRSearch_nt SRSearch_ok) conOf_nil)))))
def SSrch : LSpec where
  X := (Obj × List Ed × TypeId) × Bs × Bs × Int
  k := 1
  pre _ := True
  args x θ := [.sl (θ 0) 0 2 x.1.2.1.length false, .str x.2.1, .str x.2.2.1, i64 x.2.2.2]
  objs x _ := [edO x.1.1 x.1.2.1 x.1.2.2]
  out x _ R := R (.sb true) [some (edO x.1.1 x.1.2.1 x.1.2.2)]
theorem SSrch_top : SSrch.Top Try.prog 4 := by
  refine LSpec.top noGo mixed conSe Try.func4 rfl (by kernel_rfl) fun ⟨⟨c, l, e⟩, a, b, most⟩ R _ hR => ?_
  have hR : R (.sb true) [some (edO c l e)] := hR
  (conv => whnf)
  refine ⟨(c, l, e), [0], trivial, rfl, by (repeat' (first | exact True.intro | rfl | assumption | exact mc_ok rfl | exact mr_ok | exact fun _ => rfl | (refine And.intro ?_ ?_) | (intro _ _; rfl) | ((conv => whnf); (first | exact True.intro | (refine And.intro ?_ ?_))))), by (repeat' (first | exact True.intro | rfl | assumption | exact mc_ok rfl | exact mr_ok | exact fun _ => rfl | (refine And.intro ?_ ?_) | (intro _ _; rfl) | ((conv => whnf); (first | exact True.intro | (refine And.intro ?_ ?_))))), fun q hq => ?_⟩
  (conv => whnf)
  constructor
  · intro h1
    have h1 : fewE l := hq (not_f h1)
    (conv => whnf)
    constructor
    · intro h2
      have h2 : ¬ 300 < (a.size : Int) := of_decide_eq_false h2
      (conv => whnf)
      constructor
      · intro h3
        (conv => whnf)
        refine ⟨[], _, _, hR, ?_⟩
        (repeat' (first | exact True.intro | rfl | assumption | exact mc_ok rfl | exact mr_ok | exact fun _ => rfl | (refine And.intro ?_ ?_) | (intro _ _; rfl) | ((conv => whnf); (first | exact True.intro | (refine And.intro ?_ ?_)))))
      · intro h3
        have h3 : ¬ 300 < (b.size : Int) := of_decide_eq_false h3
        (conv => whnf)
        refine ⟨((c, l, e), 8), [0], ⟨h1, by show (0 : Int) ≤ 8; omega, by show (8 : Int) < 18446744073709551616; omega⟩, rfl, by (repeat' (first | exact True.intro | rfl | assumption | exact mc_ok rfl | exact mr_ok | exact fun _ => rfl | (refine And.intro ?_ ?_) | (intro _ _; rfl) | ((conv => whnf); (first | exact True.intro | (refine And.intro ?_ ?_))))), by (repeat' (first | exact True.intro | rfl | assumption | exact mc_ok rfl | exact mr_ok | exact fun _ => rfl | (refine And.intro ?_ ?_) | (intro _ _; rfl) | ((conv => whnf); (first | exact True.intro | (refine And.intro ?_ ?_))))), fun g E hG hE => ?_⟩
        have hG : MG 1000 1000 E 60 g := hG
        have hE : E.length ≤ 60 := hE
        have hsr := hG.srb
        (conv => whnf)
        refine ⟨((1000, 1000, E), a, b, most), [6], by show E.length ≤ 10000; omega, rfl, by (repeat' (first | exact True.intro | rfl | assumption | exact mc_ok rfl | exact mr_ok | exact fun _ => rfl | (refine And.intro ?_ ?_) | (intro _ _; rfl) | ((conv => whnf); (first | exact True.intro | (refine And.intro ?_ ?_))))), by (repeat' (first | exact True.intro | rfl | assumption | exact mc_ok rfl | exact mr_ok | exact fun _ => rfl | (refine And.intro ?_ ?_) | (intro _ _; rfl) | ((conv => whnf); (first | exact True.intro | (refine And.intro ?_ ?_))))), ?_⟩
        (conv => whnf)
        refine ⟨(g, a, b, most, rReach E a b most), [1, 2, 3, 4, 5], ⟨⟨hG.gu, by show g.sr < 1000000000; omega⟩, by show a.size ≤ 1000000; omega, by show b.size ≤ 1000000; omega, hG.reach a b most⟩, rfl, by (repeat' (first | exact True.intro | rfl | assumption | exact mc_ok rfl | exact mr_ok | exact fun _ => rfl | (refine And.intro ?_ ?_) | (intro _ _; rfl) | ((conv => whnf); (first | exact True.intro | (refine And.intro ?_ ?_))))), by (repeat' (first | exact True.intro | rfl | assumption | exact mc_ok rfl | exact mr_ok | exact fun _ => rfl | (refine And.intro ?_ ?_) | (intro _ _; rfl) | ((conv => whnf); (first | exact True.intro | (refine And.intro ?_ ?_))))), fun M1 ns sr k1 k2 k3 => ?_⟩
        have hG2 := hG.mark k1 k2 k3
        (conv => whnf)
        refine ⟨fun hh => absurd (show (!true) = true from hh) (by decide), fun _ => ?_⟩
        (conv => whnf)
        refine ⟨((1000, 1000, E), a, b), [6], by show E.length ≤ 10000; omega, rfl, by (repeat' (first | exact True.intro | rfl | assumption | exact mc_ok rfl | exact mr_ok | exact fun _ => rfl | (refine And.intro ?_ ?_) | (intro _ _; rfl) | ((conv => whnf); (first | exact True.intro | (refine And.intro ?_ ?_))))), by (repeat' (first | exact True.intro | rfl | assumption | exact mc_ok rfl | exact mr_ok | exact fun _ => rfl | (refine And.intro ?_ ?_) | (intro _ _; rfl) | ((conv => whnf); (first | exact True.intro | (refine And.intro ?_ ?_))))), ?_⟩
        have hs := srch_small E a b
        obtain ⟨need, hn⟩ : ∃ n, n = (srch (chE E) a b).2 := ⟨_, rfl⟩
        rw [← hn] at hs
        have w0 : IntKind.i64.wrap ((need : Int) - 1) = (need : Int) - 1 := wrap_id (by omega) (by omega)
        have w1 : IntKind.i64.wrap ((need : Int) + 1) = (need : Int) + 1 := wrap_id (by omega) (by omega)
        clear hG hsr
        (conv => whnf)
        refine .inl ⟨Int × GG, fun x => [(1, .str a), (2, .str b), (9, .ptr 1 0), (10, .ptr 7 0), (15, i64 (need : Nat)), (16, i64 x.1)],
          fun x => some (edO c l e) :: (x.2.all fun i => i + 1) ++ [some (edR E), some (.cells [i64 1000, i64 1000, .sl 6 0 2 E.length false] 32)],
          fun x => ((need : Int) + 2 - x.1).toNat, fun x => (need : Int) - 1 ≤ x.1 ∧ x.1 ≤ (need : Int) + 2 ∧ MG 1000 1000 E (62 + (x.1 - (need : Int))) x.2, 8,
          ⟨((need : Int) - 1, _), [some 1, some 2, some 3, some 4, some 5, some 6, some 7], ⟨Int.le_refl _, by show (need : Int) - 1 ≤ (need : Int) + 2; omega, by rw [show 62 + ((need : Int) - 1 - (need : Int)) = 60 + 1 by omega]; exact hG2⟩, ?_⟩, fun _ => rfl, fun ⟨k, g⟩ ⟨hk1, hk2, hG⟩ => ?_⟩
        · (repeat' (first | exact True.intro | rfl | assumption | exact mc_ok rfl | exact mr_ok | exact fun _ => rfl | (refine And.intro ?_ ?_) | (intro _ _; rfl) | ((conv => whnf); (first | exact True.intro | (refine And.intro ?_ ?_)))))
          all_goals first | exact congrArg (fun n : Nat => (n : Int)) hn | exact (by rw [← hn]; exact w0.symm)
        have hk1 : (need : Int) - 1 ≤ k := hk1
        have hk2 : k ≤ (need : Int) + 2 := hk2
        have hG : MG 1000 1000 E (62 + (k - (need : Int))) g := hG
        have hsr := hG.srb
        (conv => whnf)
        constructor
        · intro h4
          have h4 : k ≤ (need : Int) + 1 := by have := of_decide_eq_true h4; rwa [w1] at this
          (conv => whnf)
          refine ⟨((1000, 1000, E), a, b, k), [6], by show E.length ≤ 10000; omega, rfl, by (repeat' (first | exact True.intro | rfl | assumption | exact mc_ok rfl | exact mr_ok | exact fun _ => rfl | (refine And.intro ?_ ?_) | (intro _ _; rfl) | ((conv => whnf); (first | exact True.intro | (refine And.intro ?_ ?_))))), by (repeat' (first | exact True.intro | rfl | assumption | exact mc_ok rfl | exact mr_ok | exact fun _ => rfl | (refine And.intro ?_ ?_) | (intro _ _; rfl) | ((conv => whnf); (first | exact True.intro | (refine And.intro ?_ ?_))))), ?_⟩
          (conv => whnf)
          refine ⟨(g, a, b, k, rReach E a b k), [1, 2, 3, 4, 5], ⟨⟨hG.gu, by show g.sr < 1000000000; omega⟩, by show a.size ≤ 1000000; omega, by show b.size ≤ 1000000; omega, hG.reach a b k⟩, rfl, by (repeat' (first | exact True.intro | rfl | assumption | exact mc_ok rfl | exact mr_ok | exact fun _ => rfl | (refine And.intro ?_ ?_) | (intro _ _; rfl) | ((conv => whnf); (first | exact True.intro | (refine And.intro ?_ ?_))))), by (repeat' (first | exact True.intro | rfl | assumption | exact mc_ok rfl | exact mr_ok | exact fun _ => rfl | (refine And.intro ?_ ?_) | (intro _ _; rfl) | ((conv => whnf); (first | exact True.intro | (refine And.intro ?_ ?_))))), fun M1 ns sr k1 k2 k3 => ?_⟩
          have hG2 := hG.mark k1 k2 k3
          (conv => whnf)
          refine ⟨fun hh => absurd (show (!true) = true from hh) (by decide), fun _ => ?_⟩
          (conv => whnf)
          refine ⟨(k + 1, _), [some 1, some 2, some 3, some 4, some 5, some 6, some 7], by show ((need : Int) + 2 - (k + 1)).toNat < ((need : Int) + 2 - k).toNat; omega, ⟨by show (need : Int) - 1 ≤ k + 1; omega, by show k + 1 ≤ (need : Int) + 2; omega, by rw [show 62 + (k + 1 - (need : Int)) = 62 + (k - (need : Int)) + 1 by omega]; exact hG2⟩, ?_⟩
          (repeat' (first | exact True.intro | rfl | assumption | exact mc_ok rfl | exact mr_ok | exact fun _ => rfl | (refine And.intro ?_ ?_) | (intro _ _; rfl) | ((conv => whnf); (first | exact True.intro | (refine And.intro ?_ ?_)))))
          all_goals exact (wrap_id (by omega) (by omega)).symm
        · intro h4
          (conv => whnf)
          refine ⟨[], _, _, hR, ?_⟩
          (repeat' (first | exact True.intro | rfl | assumption | exact mc_ok rfl | exact mr_ok | exact fun _ => rfl | (refine And.intro ?_ ?_) | (intro _ _; rfl) | ((conv => whnf); (first | exact True.intro | (refine And.intro ?_ ?_)))))
    · intro h2
      (conv => whnf)
      (repeat' (first | (refine And.intro (fun hh => ?_) (fun hh => ?_) <;> first | (exfalso; simp [*] at hh; done) | (exfalso; simp_all; done) | (conv => whnf)) | fail))
      refine ⟨[], _, _, hR, ?_⟩
      (repeat' (first | exact True.intro | rfl | assumption | exact mc_ok rfl | exact mr_ok | exact fun _ => rfl | (refine And.intro ?_ ?_) | (intro _ _; rfl) | ((conv => whnf); (first | exact True.intro | (refine And.intro ?_ ?_)))))
  · intro h1
    (conv => whnf)
    (repeat' (first | (refine And.intro (fun hh => ?_) (fun hh => ?_) <;> first | (exfalso; simp [*] at hh; done) | (exfalso; simp_all; done) | (conv => whnf)) | fail))
    refine ⟨[], _, _, hR, ?_⟩
    (repeat' (first | exact True.intro | rfl | assumption | exact mc_ok rfl | exact mr_ok | exact fun _ => rfl | (refine And.intro ?_ ?_) | (intro _ _; rfl) | ((conv => whnf); (first | exact True.intro | (refine And.intro ?_ ?_)))))
end Go.Proofs.Ytmgcpfljhcahoaa
