/- What the law's functions adds, reaches, lens compute. -/
import Derived.Test.YtmgcpfljhcahoaaK3GraphPlays
namespace Go.Proofs.Ytmgcpfljhcahoaa
open Go Go.RowKit Sy Tb Gr
set_option maxRecDepth 100000
set_option maxHeartbeats 4000000
theorem conLA : ConOk Try.prog (conOf [(21, SAdd.T)]) := conOf_cons (LSpec.call SAdd_nt SAdd_ok) conOf_nil
/-- adds says yes. -/
def SLAdd : LSpec where
  X := GG × Bs × Bs × Bool × Int
  k := 5
  pre x := GW x.1 ∧ x.2.1.size ≤ 1000000 ∧ x.2.2.1.size ≤ 1000000 ∧ addR x.1.N x.1.E x.1.lk x.1.ns x.2.1 x.2.2.1 = x.2.2.2
  args x θ := [.ptr (θ 0) 0, .str x.2.1, .str x.2.2.1, .sb x.2.2.2.1, i64 x.2.2.2.2]
  objs x θ := x.1.objs θ
  out x θ R := ∀ adr M1 M2 ns m C sr, SameE (nsA x.1.N x.1.E x.1.lk x.1.ns x.2.1 x.2.2.1) ns → sr ≤ x.1.sr + 1 → GU ⟨x.1.N, x.1.E, x.1.seed, adr, M1, M2, ns, m, C, lkA x.1.N x.1.E x.1.lk x.1.ns x.2.1 x.2.2.1, sr⟩ →
    R (.sb true) [some (grC (θ 5) (θ 6) x.1.N x.1.E x.1.seed ns.length m (lkA x.1.N x.1.E x.1.lk x.1.ns x.2.1 x.2.2.1) sr), none, none, some (mcO (θ 4) M1), some (mrO M2), some (lsR (θ 3) ns.length adr), some (ceR m C)]
theorem SLAdd_nt : SLAdd.Nt := ⟨fun _ _ => rfl, by unfold SLAdd GG.objs; (intros; simp only [ren_all] at *; try assumption), by unfold SLAdd; (intros; simp only [ren_all] at *; try assumption)⟩
theorem SLAdd_ok : SLAdd.Ok Try.prog 18 := by
  refine LSpec.of_body noGo mixed conLA Try.func18 rfl (by kernel_rfl) fun ⟨g, p, c, b, e⟩ R ⟨hW, hp, hc, he⟩ hR => ?_
  have hW : GW g := hW
  have he : addR g.N g.E g.lk g.ns p c = (b, e) := he
  have hQ : ∀ adr M1 M2 ns m C sr, SameE (nsA g.N g.E g.lk g.ns p c) ns → sr ≤ g.sr + 1 → GU ⟨g.N, g.E, g.seed, adr, M1, M2, ns, m, C, lkA g.N g.E g.lk g.ns p c, sr⟩ →
    R (.sb true) [some (grC 5 6 g.N g.E g.seed ns.length m (lkA g.N g.E g.lk g.ns p c) sr), none, none, some (mcO 4 M1), some (mrO M2), some (lsR 3 ns.length adr), some (ceR m C)] := hR
  (conv => whnf)
  refine ⟨(g, p, c), [0, 1, 2, 3, 4], ⟨hW, hp, hc⟩, rfl, by (repeat' (first | exact True.intro | rfl | assumption | exact mc_ok rfl | exact mr_ok | exact fun _ => rfl | (refine And.intro ?_ ?_) | (intro _ _; rfl) | ((conv => whnf); (first | exact True.intro | (refine And.intro ?_ ?_))))), by (repeat' (first | exact True.intro | rfl | assumption | exact mc_ok rfl | exact mr_ok | exact fun _ => rfl | (refine And.intro ?_ ?_) | (intro _ _; rfl) | ((conv => whnf); (first | exact True.intro | (refine And.intro ?_ ?_))))), fun adr M1 M2 ns m C sr h1 h2 h3 => ?_⟩
  have hRR := hQ adr M1 M2 ns m C sr h1 h2 h3
  have e1 : (addR g.N g.E g.lk g.ns p c).1 = b := by rw [he]
  have e2 : (addR g.N g.E g.lk g.ns p c).2 = e := by rw [he]
  (conv => whnf)
  refine ⟨fun _ => ?_, fun hh => ?_⟩
  · (conv => whnf)
    refine ⟨[some 5, some 6], _, _, hRR, ?_⟩
    (repeat' (first | exact True.intro | rfl | assumption | exact mc_ok rfl | exact mr_ok | exact fun _ => rfl | (refine And.intro ?_ ?_) | (intro _ _; rfl) | ((conv => whnf); (first | exact True.intro | (refine And.intro ?_ ?_)))))
    all_goals (show true = decide ((addR g.N g.E g.lk g.ns p c).2 = e); rw [e2]; simp)
  · have hh : (((addR g.N g.E g.lk g.ns p c).1 == b) == true) = false := hh
    rw [e1] at hh
    simp at hh
theorem conLR : ConOk Try.prog (conOf [(29, SReach.T)]) := conOf_cons (LSpec.call SReach_nt SReach_ok) conOf_nil
/-- reaches says yes. -/
def SLReach : LSpec where
  X := GG × Bs × Bs × Int × Bool × Int × Int
  k := 5
  pre x := (GU x.1 ∧ x.1.sr < 1000000000) ∧ x.2.1.size ≤ 1000000 ∧ x.2.2.1.size ≤ 1000000 ∧ reachR x.1.ns x.2.1 x.2.2.1 x.2.2.2.1 = x.2.2.2.2
  args x θ := [.ptr (θ 0) 0, .str x.2.1, .str x.2.2.1, i64 x.2.2.2.1, .sb x.2.2.2.2.1, i64 x.2.2.2.2.2.1, i64 x.2.2.2.2.2.2]
  objs x θ := x.1.objs θ
  out x θ R := ∀ M1 ns sr, SameE x.1.ns ns → sr ≤ x.1.sr + 1 → GU { x.1 with M1 := M1, ns := ns, sr := sr } → R (.sb true) (({ x.1 with M1 := M1, ns := ns, sr := sr } : GG).all θ)
theorem SLReach_nt : SLReach.Nt := ⟨fun _ _ => rfl, by unfold SLReach GG.objs; (intros; simp only [ren_all] at *; try assumption), by unfold SLReach GG.all; (intros; simp only [ren_all] at *; try assumption)⟩
theorem SLReach_ok : SLReach.Ok Try.prog 16 := by
  refine LSpec.of_body noGo mixed conLR Try.func16 rfl (by kernel_rfl) fun ⟨g, a, c, most, b, n, e⟩ R ⟨⟨hU, hs⟩, ha, hc, he⟩ hR => ?_
  have hU : GU g := hU
  have hs : g.sr < 1000000000 := hs
  have he : reachR g.ns a c most = (b, n, e) := he
  have hQ : ∀ M1 ns sr, SameE g.ns ns → sr ≤ g.sr + 1 → GU { g with M1 := M1, ns := ns, sr := sr } → R (.sb true) (({ g with M1 := M1, ns := ns, sr := sr } : GG).all _root_.id) := hR
  (conv => whnf)
  refine ⟨(g, a, c, most), [0, 1, 2, 3, 4], ⟨hU, ha, hc⟩, rfl, by (repeat' (first | exact True.intro | rfl | assumption | exact mc_ok rfl | exact mr_ok | exact fun _ => rfl | (refine And.intro ?_ ?_) | (intro _ _; rfl) | ((conv => whnf); (first | exact True.intro | (refine And.intro ?_ ?_))))), by (repeat' (first | exact True.intro | rfl | assumption | exact mc_ok rfl | exact mr_ok | exact fun _ => rfl | (refine And.intro ?_ ?_) | (intro _ _; rfl) | ((conv => whnf); (first | exact True.intro | (refine And.intro ?_ ?_))))), fun M1 ns sr h1 h2 h3 => ?_⟩
  have h2 : sr ≤ g.sr + 1 := h2
  have hRR := hQ M1 ns sr h1 h2 (h3 (by omega))
  have e1 : (reachR g.ns a c most).1 = b := by rw [he]
  have e2 : (reachR g.ns a c most).2.1 = n := by rw [he]
  have e3 : (reachR g.ns a c most).2.2 = e := by rw [he]
  (conv => whnf)
  refine ⟨fun _ => ?_, fun hh => ?_⟩
  · (conv => whnf)
    refine ⟨fun _ => ?_, fun hh => ?_⟩
    · (conv => whnf)
      refine ⟨[], _, _, hRR, ?_⟩
      (repeat' (first | exact True.intro | rfl | assumption | exact mc_ok rfl | exact mr_ok | exact fun _ => rfl | (refine And.intro ?_ ?_) | (intro _ _; rfl) | ((conv => whnf); (first | exact True.intro | (refine And.intro ?_ ?_)))))
      all_goals (show true = decide ((reachR g.ns a c most).2.2 = e); rw [e3]; simp)
    · have hh : decide ((reachR g.ns a c most).2.1 = n) = false := hh
      rw [e2] at hh
      simp at hh
  · have hh : (((reachR g.ns a c most).1 == b) == true) = false := hh
    rw [e1] at hh
    simp at hh
theorem conLL : ConOk Try.prog (conOf [(42, SLen.T)]) := conOf_cons (LSpec.call SLen_nt SLen_ok) conOf_nil
/-- lens says yes. -/
def SLLen : LSpec where
  X := GG × Int × Int
  k := 5
  pre x := 1 ≤ x.1.N ∧ (x.1.ns.length : Int) = x.2.1 ∧ x.1.lk = x.2.2
  args x θ := [.ptr (θ 0) 0, i64 x.2.1, i64 x.2.2]
  objs x θ := x.1.objs θ
  out x θ R := R (.sb true) (x.1.all θ)
theorem SLLen_nt : SLLen.Nt := ⟨fun _ _ => rfl, by unfold SLLen GG.objs; (intros; simp only [ren_all] at *; try assumption), by unfold SLLen GG.all; (intros; simp only [ren_all] at *; try assumption)⟩
theorem SLLen_ok : SLLen.Ok Try.prog 20 := by
  refine LSpec.of_body noGo mixed conLL Try.func20 rfl (by kernel_rfl) fun ⟨g, n, k⟩ R ⟨hN, h1, h2⟩ hR => ?_
  have h1 : (g.ns.length : Int) = n := h1
  have h2 : g.lk = k := h2
  have hQ : R (.sb true) (g.all _root_.id) := hR
  (conv => whnf)
  refine ⟨g, [0, 1, 2, 3, 4], hN, rfl, by (repeat' (first | exact True.intro | rfl | assumption | exact mc_ok rfl | exact mr_ok | exact fun _ => rfl | (refine And.intro ?_ ?_) | (intro _ _; rfl) | ((conv => whnf); (first | exact True.intro | (refine And.intro ?_ ?_))))), by (repeat' (first | exact True.intro | rfl | assumption | exact mc_ok rfl | exact mr_ok | exact fun _ => rfl | (refine And.intro ?_ ?_) | (intro _ _; rfl) | ((conv => whnf); (first | exact True.intro | (refine And.intro ?_ ?_))))), ?_⟩
  (conv => whnf)
  refine ⟨fun _ => ?_, fun hh => ?_⟩
  · (conv => whnf)
    refine ⟨[], _, _, hQ, ?_⟩
    (repeat' (first | exact True.intro | rfl | assumption | exact mc_ok rfl | exact mr_ok | exact fun _ => rfl | (refine And.intro ?_ ?_) | (intro _ _; rfl) | ((conv => whnf); (first | exact True.intro | (refine And.intro ?_ ?_)))))
    all_goals (show true = decide (g.lk = k); rw [h2]; simp)
  · have hh : decide ((g.ns.length : Int) = n) = false := hh
    rw [h1] at hh
    simp at hh
end Go.Proofs.Ytmgcpfljhcahoaa
