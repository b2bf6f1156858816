/- GraphHolds: the walk. -/
import Derived.Test.YtmgcpfljhcahoaaGrHm
import Derived.Test.YtmgcpfljhcahoaaGrEdges
import Derived.Test.YtmgcpfljhcahoaaGrLaw1
import Derived.Test.YtmgcpfljhcahoaaLaw22K
import Derived.Test.YtmgcpfljhcahoaaSyC
namespace Go.Proofs.Ytmgcpfljhcahoaa
open Go Go.RowKit Sy Tb Gr
set_option maxRecDepth 100000
set_option maxHeartbeats 8000000

def SLook : LSpec where
  X := GG × Bs
  k := 5
  pre x := (GU x.1 ∧ x.1.sr < 1000000000) ∧ x.2.size ≤ 1000000
  args x θ := [.ptr (θ 0) 0, .str x.2]
  objs x θ := x.1.objs θ
  out x θ R := ∀ M1 ns sr, SameE x.1.ns ns → sr ≤ x.1.sr + 1 → GU { x.1 with M1 := M1, ns := ns, sr := sr } → R (i64 (reachR x.1.ns x.2 x.2 1048576).2.1) (({ x.1 with M1 := M1, ns := ns, sr := sr } : GG).all θ)
theorem SLook_nt : SLook.Nt := ⟨fun _ _ => rfl, by unfold SLook GG.objs; (intros; simp only [ren_all] at *; try assumption), by unfold SLook GG.all; (intros; simp only [ren_all] at *; try assumption)⟩
theorem SLook_ok : SLook.Ok Try.prog 26 := by
  refine LSpec.of_body noGo mixed conLR Try.func26 rfl (by kernel_rfl) fun ⟨g, a⟩ R ⟨⟨hU, hs⟩, ha⟩ hR => ?_
  have hU : GU g := hU
  have hs : g.sr < 1000000000 := hs
  have hQ : ∀ M1 ns sr, SameE g.ns ns → sr ≤ g.sr + 1 → GU { g with M1 := M1, ns := ns, sr := sr } → R (i64 (reachR g.ns a a 1048576).2.1) (({ g with M1 := M1, ns := ns, sr := sr } : GG).all _root_.id) := hR
  (conv => whnf)
  refine ⟨(g, a, a, 1048576), [0, 1, 2, 3, 4], ⟨hU, ha, ha⟩, rfl, by (repeat' (first | exact True.intro | rfl | assumption | exact mc_ok rfl | exact mr_ok | exact fun _ => rfl | (refine And.intro ?_ ?_) | (intro _ _; rfl) | ((conv => whnf); (first | exact True.intro | (refine And.intro ?_ ?_))))), by (repeat' (first | exact True.intro | rfl | assumption | exact mc_ok rfl | exact mr_ok | exact fun _ => rfl | (refine And.intro ?_ ?_) | (intro _ _; rfl) | ((conv => whnf); (first | exact True.intro | (refine And.intro ?_ ?_))))), fun M1 ns sr h1 h2 h3 => ?_⟩
  have h2 : sr ≤ g.sr + 1 := h2
  have hRR := hQ M1 ns sr h1 h2 (h3 (by omega))
  (conv => whnf)
  refine ⟨[], _, _, hRR, ?_⟩
  (repeat' (first | exact True.intro | rfl | assumption | exact mc_ok rfl | exact mr_ok | exact fun _ => rfl | (refine And.intro ?_ ?_) | (intro _ _; rfl) | ((conv => whnf); (first | exact True.intro | (refine And.intro ?_ ?_)))))
/-! The same, with what is returned named -/
def SNodesL : LSpec where
  X := GG × List Bs
  k := 5
  pre x := (GT x.1 x.1.ns.length ∧ 1 ≤ x.1.N) ∧ sortK (keyL x.1.ns) = x.2
  args _ θ := [.ptr (θ 0) 0]
  objs x θ := x.1.objs θ
  out x θ R := R (.sl (θ 5) 0 1 x.2.length false) (x.1.all θ ++ [some (stR x.2)])
theorem SNodesL_nt : SNodesL.Nt := ⟨fun _ _ => rfl, by unfold SNodesL GG.objs; (intros; simp only [ren_all] at *; try assumption), by unfold SNodesL GG.all; (intros; simp only [ren_all] at *; try assumption)⟩
theorem SNodesL_ok : SNodesL.Ok Try.prog 23 := fun ⟨g, L⟩ R ⟨h1, h2⟩ hR => SNodes_ok g R h1 (by have h2 : sortK (keyL g.ns) = L := h2; subst h2; exact hR)
def SEndsL (e : Bool) : LSpec where
  X := GG × Bs × List Bs
  k := 5
  pre x := (GT x.1 x.1.ns.length ∧ 1 ≤ x.1.N ∧ x.2.1.size ≤ 1000000 ∧ EI x.1.ns) ∧ keysE e x.1.ns x.2.1 = x.2.2
  args x θ := [.ptr (θ 0) 0, .str x.2.1]
  objs x θ := x.1.objs θ
  out x θ R := R (.sl (θ 5) 0 1 x.2.2.length false) (x.1.all θ ++ [some (stR x.2.2)])
theorem SEndsL_nt (e : Bool) : (SEndsL e).Nt := ⟨fun _ _ => rfl, by unfold SEndsL GG.objs; (intros; simp only [ren_all] at *; try assumption), by unfold SEndsL GG.all; (intros; simp only [ren_all] at *; try assumption)⟩
theorem SChL_ok : (SEndsL false).Ok Try.prog 27 := fun ⟨g, k, L⟩ R ⟨h1, h2⟩ hR => SChildren_ok (g, k) R h1 (by have h2 : keysE false g.ns k = L := h2; subst h2; exact hR)
theorem SPaL_ok : (SEndsL true).Ok Try.prog 28 := fun ⟨g, k, L⟩ R ⟨h1, h2⟩ hR => SParents_ok (g, k) R h1 (by have h2 : keysE true g.ns k = L := h2; subst h2; exact hR)
def SReachL : LSpec where
  X := GG × Bs × Bs × Int × Bool × Int × Int
  k := 5
  pre x := (GU x.1 ∧ x.1.sr < 1000000000) ∧ (x.2.1.size ≤ 1000000 ∧ x.2.2.1.size ≤ 1000000) ∧ reachR x.1.ns x.2.1 x.2.2.1 x.2.2.2.1 = x.2.2.2.2
  args x θ := [.ptr (θ 0) 0, .str x.2.1, .str x.2.2.1, i64 x.2.2.2.1]
  objs x θ := x.1.objs θ
  out x θ R := ∀ M1 ns sr, SameE x.1.ns ns → sr ≤ x.1.sr + 1 → GU { x.1 with M1 := M1, ns := ns, sr := sr } →
    R (.tup [.sb x.2.2.2.2.1, i64 x.2.2.2.2.2.1, i64 x.2.2.2.2.2.2]) (({ x.1 with M1 := M1, ns := ns, sr := sr } : GG).all θ)
theorem SReachL_nt : SReachL.Nt := ⟨fun _ _ => rfl, by unfold SReachL GG.objs; (intros; simp only [ren_all] at *; try assumption), by unfold SReachL GG.all; (intros; simp only [ren_all] at *; try assumption)⟩
theorem SReachL_ok : SReachL.Ok Try.prog 29 := fun ⟨g, a, b, m, r⟩ R ⟨⟨h1, h2⟩, ⟨h3, h4⟩, h5⟩ hR => SReach_ok (g, a, b, m) R ⟨h1, h3, h4⟩ (by
  have h5 : reachR g.ns a b m = r := h5
  have h2 : g.sr < 1000000000 := h2
  subst h5
  exact fun M1 ns sr k1 k2 k3 => hR M1 ns sr k1 k2 (k3 (by have k2 : sr ≤ g.sr + 1 := k2; omega)))
def SLookL : LSpec where
  X := GG × Bs × Int
  k := 5
  pre x := ((GU x.1 ∧ x.1.sr < 1000000000) ∧ x.2.1.size ≤ 1000000) ∧ (reachR x.1.ns x.2.1 x.2.1 1048576).2.1 = x.2.2
  args x θ := [.ptr (θ 0) 0, .str x.2.1]
  objs x θ := x.1.objs θ
  out x θ R := ∀ M1 ns sr, SameE x.1.ns ns → sr ≤ x.1.sr + 1 → GU { x.1 with M1 := M1, ns := ns, sr := sr } → R (i64 x.2.2) (({ x.1 with M1 := M1, ns := ns, sr := sr } : GG).all θ)
theorem SLookL_nt : SLookL.Nt := ⟨fun _ _ => rfl, by unfold SLookL GG.objs; (intros; simp only [ren_all] at *; try assumption), by unfold SLookL GG.all; (intros; simp only [ren_all] at *; try assumption)⟩
theorem SLookL_ok : SLookL.Ok Try.prog 26 := fun ⟨g, a, n⟩ R ⟨h1, h2⟩ hR => SLook_ok (g, a) R h1 (by have h2 : (reachR g.ns a a 1048576).2.1 = n := h2; subst h2; exact hR)
theorem conHo : ConOk Try.prog (conOf [(11, trueT), (13, SEdges.T), (9, SNew.T), (21, SAdd.T), (22, SEdgesG.T), (18, SLAdd.T), (23, SNodesL.T), (24, SSame.T), (25, SStrs.T), (26, SLookL.T), (16, SLReach.T), (27, (SEndsL false).T), (28, (SEndsL true).T), (29, SReachL.T), (30, SHas.T)]) :=
  conOf_cons (true_ok ⟨_, Try.func11, rfl⟩ known_any) (conOf_cons (LSpec.call SEdges_nt SEdges_ok) (conOf_cons (LSpec.call SNew_nt SNew_ok) (conOf_cons (LSpec.call SAdd_nt SAdd_ok) (conOf_cons (LSpec.call SEdgesG_nt SEdgesG_ok) (conOf_cons (LSpec.call SLAdd_nt SLAdd_ok) (conOf_cons (LSpec.call SNodesL_nt SNodesL_ok) (conOf_cons (LSpec.call SSame_nt SSame_ok) (conOf_cons (LSpec.call SStrs_nt SStrs_ok) (conOf_cons (LSpec.call SLookL_nt SLookL_ok) (conOf_cons (LSpec.call SLReach_nt SLReach_ok) (conOf_cons (LSpec.call (SEndsL_nt false) SChL_ok (fun _ => rfl) (show 5 ≤ 60 by decide)) (conOf_cons (LSpec.call (SEndsL_nt true) SPaL_ok (fun _ => rfl) (show 5 ≤ 60 by decide)) (conOf_cons (LSpec.call SReachL_nt SReachL_ok) (conOf_cons (LSpec.call SHas_nt SHas_ok) conOf_nil))))))))))))))
def SHolds : LSpec where
  X := (Obj × List Ed × TypeId) × Int × Int
  k := 1
  pre x := (0 ≤ x.2.1 ∧ x.2.1 < 18446744073709551616) ∧ 0 ≤ x.2.2 ∧ x.2.2 < 18446744073709551616
  args x θ := [.sl (θ 0) 0 2 x.1.2.1.length false, u64 x.2.1, u64 x.2.2]
  objs x _ := [edO x.1.1 x.1.2.1 x.1.2.2]
  out x _ R := R (.sb true) [some (edO x.1.1 x.1.2.1 x.1.2.2)]
theorem SHolds_top : SHolds.Top Try.prog 6 := by
  refine LSpec.topC [34] noGo mixed conHo Try.func6 rfl (by kernel_rfl) fun ⟨⟨c, l, e⟩, s1, s2⟩ R ⟨hs1, hs2⟩ hR => ?_
  have hR : R (.sb true) [some (edO c l e)] := hR
  have hs1 : 0 ≤ s1 ∧ s1 < 18446744073709551616 := hs1
  have hs2 : 0 ≤ s2 ∧ s2 < 18446744073709551616 := hs2
  (conv => whnf)
  refine ⟨(c, l, e), [0], trivial, rfl, by (repeat' (first | exact True.intro | rfl | assumption | exact mc_ok rfl | exact mr_ok | exact fun _ => rfl | (refine And.intro ?_ ?_) | (intro _ _; rfl) | ((conv => whnf); (first | exact True.intro | (refine And.intro ?_ ?_))))), by (repeat' (first | exact True.intro | rfl | assumption | exact mc_ok rfl | exact mr_ok | exact fun _ => rfl | (refine And.intro ?_ ?_) | (intro _ _; rfl) | ((conv => whnf); (first | exact True.intro | (refine And.intro ?_ ?_))))), fun q hq => ?_⟩
  (conv => whnf)
  constructor
  · intro h1
    (conv => whnf)
    refine ⟨[], _, _, hR, ?_⟩
    (repeat' (first | exact True.intro | rfl | assumption | exact mc_ok rfl | exact mr_ok | exact fun _ => rfl | (refine And.intro ?_ ?_) | (intro _ _; rfl) | ((conv => whnf); (first | exact True.intro | (refine And.intro ?_ ?_)))))
  · intro h1
    have h1 : fewE l := hq (not_f h1)
    obtain ⟨hl, hsz⟩ := h1
    (conv => whnf)
    refine ⟨(1000, 1000, s1), [], ⟨⟨by show (1 : Int) ≤ 1000; omega, by show (1000 : Int) ≤ 65536; omega⟩, by show (1 : Int) ≤ 1000; omega, by show (1000 : Int) ≤ 65536; omega⟩, rfl, by (repeat' (first | exact True.intro | rfl | assumption | exact mc_ok rfl | exact mr_ok | exact fun _ => rfl | (refine And.intro ?_ ?_) | (intro _ _; rfl) | ((conv => whnf); (first | exact True.intro | (refine And.intro ?_ ?_))))), by (repeat' (first | exact True.intro | rfl | assumption | exact mc_ok rfl | exact mr_ok | exact fun _ => rfl | (refine And.intro ?_ ?_) | (intro _ _; rfl) | ((conv => whnf); (first | exact True.intro | (refine And.intro ?_ ?_))))), ?_⟩
    (conv => whnf)
    refine ⟨(1000, 1000, s2), [], ⟨⟨by show (1 : Int) ≤ 1000; omega, by show (1000 : Int) ≤ 65536; omega⟩, by show (1 : Int) ≤ 1000; omega, by show (1000 : Int) ≤ 65536; omega⟩, rfl, by (repeat' (first | exact True.intro | rfl | assumption | exact mc_ok rfl | exact mr_ok | exact fun _ => rfl | (refine And.intro ?_ ?_) | (intro _ _; rfl) | ((conv => whnf); (first | exact True.intro | (refine And.intro ?_ ?_))))), by (repeat' (first | exact True.intro | rfl | assumption | exact mc_ok rfl | exact mr_ok | exact fun _ => rfl | (refine And.intro ?_ ?_) | (intro _ _; rfl) | ((conv => whnf); (first | exact True.intro | (refine And.intro ?_ ?_))))), ?_⟩
    (conv => whnf)
    refine ⟨fun _ => ?_, fun hh => Bool.noConfusion (show (!decide ((0 : Int) = 0)) = true from hh)⟩
    (conv => whnf)
    refine ⟨fun hh => Bool.noConfusion (show (!decide ((0 : Int) = 0)) = true from hh), fun _ => ?_⟩
    obtain ⟨hz, hhz⟩ : ∃ g : GG, g = ⟨1000, 1000, s2, fun _ => 0, m1e, m2e, [], 8, fun _ => 0, 0, 0⟩ := ⟨_, rfl⟩
    have hZ : MG 1000 1000 [] 0 hz := by rw [hhz]; exact MG.zero (by omega) (by omega) hs2
    (conv => whnf)
    refine .inl ⟨Nat × GG × List Ed, fun x => [(0, .sl 0 0 2 l.length false), (7, .ptr 1 0), (9, .ptr 6 0), (11, i64 x.1)],
      fun x => some (edO c l e) :: (x.2.1.all fun i => i + 1) ++ (hz.all fun i => i + 6),
      fun x => l.length - x.1, fun x => x.1 ≤ l.length ∧ MG 1000 1000 x.2.2 x.1 x.2.1 ∧ x.2.2.length ≤ x.1 ∧ Ac x.2.2, 11,
      ⟨(0, ⟨1000, 1000, s1, fun _ => 0, m1e, m2e, [], 8, fun _ => 0, 0, 0⟩, []), [some 1, some 2, some 3, some 4, some 5, some 6, some 7, some 8, some 9, some 10], ⟨Nat.zero_le _, MG.zero (by omega) (by omega) hs1, Nat.le_refl _, Ac.nil⟩, ?_⟩, fun _ => rfl, fun ⟨i, g, E⟩ ⟨hi, hG, hEl, hac⟩ => ?_⟩
    · rw [hhz]
      (repeat' (first | exact True.intro | rfl | assumption | exact mc_ok rfl | exact mr_ok | exact fun _ => rfl | (refine And.intro ?_ ?_) | (intro _ _; rfl) | ((conv => whnf); (first | exact True.intro | (refine And.intro ?_ ?_)))))
    have hi : i ≤ l.length := hi
    have hG : MG 1000 1000 E i g := hG
    have hEl : E.length ≤ i := hEl
    have hac : Ac E := hac
    have ei := zero_add_toNat i
    clear hhz
    (conv => whnf)
    constructor
    · intro h
      have h : i < l.length := by have : (i : Int) < (l.length : Int) := of_decide_eq_true h; omega
      have hz2 := hsz i h
      have hle := rAddE_len 1000 1000 E (l.getD (0 + (i : Int).toNat) e00).1 (l.getD (0 + (i : Int).toNat) e00).2
      (conv => whnf)
      refine ⟨by show (0 : Int) ≤ (i : Int); omega, by show (i : Int) < (l.length : Int); omega, ?_⟩
      (conv => whnf)
      refine ⟨by rw [ei]; exact h, ?_⟩
      (conv => whnf)
      refine ⟨by show (0 : Int) ≤ (i : Int); omega, by show (i : Int) < (l.length : Int); omega, ?_⟩
      (conv => whnf)
      refine ⟨by rw [ei]; exact h, ?_⟩
      (conv => whnf)
      refine ⟨(g, (l.getD (0 + (i : Int).toNat) e00).1, (l.getD (0 + (i : Int).toNat) e00).2), [1, 2, 3, 4, 5], ⟨hG.gw (by omega) (by omega), by show (l.getD (0 + (i : Int).toNat) e00).1.size ≤ 1000000; rw [ei]; omega, by show (l.getD (0 + (i : Int).toNat) e00).2.size ≤ 1000000; rw [ei]; omega⟩, rfl, by (repeat' (first | exact True.intro | rfl | assumption | exact mc_ok rfl | exact mr_ok | exact fun _ => rfl | (refine And.intro ?_ ?_) | (intro _ _; rfl) | ((conv => whnf); (first | exact True.intro | (refine And.intro ?_ ?_))))), by (repeat' (first | exact True.intro | rfl | assumption | exact mc_ok rfl | exact mr_ok | exact fun _ => rfl | (refine And.intro ?_ ?_) | (intro _ _; rfl) | ((conv => whnf); (first | exact True.intro | (refine And.intro ?_ ?_))))), fun adr M1 M2 ns m C sr k1 k2 k3 => ?_⟩
      have hG' := hG.add (by omega) k1 k2 k3
      have hac' := hac.addE (N := 1000) (M := 1000) (by omega) (l.getD (0 + (i : Int).toNat) e00).1 (l.getD (0 + (i : Int).toNat) e00).2
      (conv => whnf)
      refine ⟨(i + 1, _, rAddE 1000 1000 E (l.getD (0 + (i : Int).toNat) e00).1 (l.getD (0 + (i : Int).toNat) e00).2), [some 1, some 11, some 12, some 4, some 5, some 6, some 7, some 8, some 9, some 10], by show l.length - (i + 1) < l.length - i; omega, ⟨by show i + 1 ≤ l.length; omega, hG', by show (rAddE 1000 1000 E _ _).length ≤ i + 1; omega, hac'⟩, ?_⟩
      (repeat' (first | exact True.intro | rfl | assumption | exact mc_ok rfl | exact mr_ok | exact fun _ => rfl | (refine And.intro ?_ ?_) | (intro _ _; rfl) | ((conv => whnf); (first | exact True.intro | (refine And.intro ?_ ?_)))))
      all_goals exact (wrap_inc h (by omega)).symm
    · intro h
      have hG : MG 1000 1000 E 60 g := hG.up (by omega)
      have hE : E.length ≤ 60 := by omega
      have hv := hG.valid
      have hsE := hG.rel.srt
      clear hi hEl h hsz
      (conv => whnf)
      refine ⟨(g, E), [1, 2, 3, 4, 5], ⟨⟨hG.gu.gt, hG.gu.n1⟩, hG.pu, hG.rel, by show E.length ≤ 70000; omega⟩, rfl, by (repeat' (first | exact True.intro | rfl | assumption | exact mc_ok rfl | exact mr_ok | exact fun _ => rfl | (refine And.intro ?_ ?_) | (intro _ _; rfl) | ((conv => whnf); (first | exact True.intro | (refine And.intro ?_ ?_))))), by (repeat' (first | exact True.intro | rfl | assumption | exact mc_ok rfl | exact mr_ok | exact fun _ => rfl | (refine And.intro ?_ ?_) | (intro _ _; rfl) | ((conv => whnf); (first | exact True.intro | (refine And.intro ?_ ?_))))), ?_⟩
      (conv => whnf)
      refine .inl ⟨Nat × GG, fun x => [(7, .ptr 1 0), (9, .ptr 6 0), (12, .sl 11 0 2 E.length false), (13, i64 ((x.1 : Int) - 1))],
        fun x => some (edO c l e) :: (g.all fun i => i + 1) ++ (x.2.all fun i => i + 6) ++ [some (edR E)],
        fun x => x.1, fun x => x.1 ≤ E.length ∧ MG 1000 1000 (E.drop x.1) ((E.length : Int) - x.1) x.2, 12,
        ⟨(E.length, hz), [some 1, some 2, some 3, some 4, some 5, some 6, some 7, some 8, some 9, some 10, some 11], ⟨Nat.le_refl _, by show MG 1000 1000 (E.drop E.length) ((E.length : Int) - (E.length : Int)) hz; rw [List.drop_length]; exact hZ.up (by omega)⟩, ?_⟩, fun _ => rfl, fun ⟨k, h⟩ ⟨hk, hH⟩ => ?_⟩
      · (repeat' (first | exact True.intro | rfl | assumption | exact mc_ok rfl | exact mr_ok | exact fun _ => rfl | (refine And.intro ?_ ?_) | (intro _ _; rfl) | ((conv => whnf); (first | exact True.intro | (refine And.intro ?_ ?_)))))
        all_goals exact (wrap_id (by omega) (by omega)).symm
      have hk : k ≤ E.length := hk
      have hH : MG 1000 1000 (E.drop k) ((E.length : Int) - k) h := hH
      (conv => whnf)
      constructor
      · intro h2
        have h2 : (0 : Int) ≤ (k : Int) - 1 := of_decide_eq_true h2
        obtain ⟨j, rfl⟩ : ∃ j, k = j + 1 := ⟨k - 1, by omega⟩
        have ej : 0 + (((j + 1 : Nat) : Int) - 1).toNat = j := by omega
        obtain ⟨b1, b2⟩ := back_add hsE hac hv hE (k := j) (by omega)
        obtain ⟨v1, v2⟩ := hv _ (getD_mem (l := E) (k := j) (by omega))
        have v1 := (validK_iff.1 v1).2
        have v2 := (validK_iff.1 v2).2
        have hdl : (E.drop (j + 1)).length ≤ 60 := by rw [List.length_drop]; omega
        rw [← congrArg (fun n => E.getD n e00) ej] at b1 b2 v1 v2
        (conv => whnf)
        refine ⟨h2, by show ((j + 1 : Nat) : Int) - 1 < (E.length : Int); omega, ?_⟩
        (conv => whnf)
        refine ⟨by rw [ej]; omega, ?_⟩
        (conv => whnf)
        refine ⟨h2, by show ((j + 1 : Nat) : Int) - 1 < (E.length : Int); omega, ?_⟩
        (conv => whnf)
        refine ⟨by rw [ej]; omega, ?_⟩
        (conv => whnf)
        refine ⟨(h, (E.getD (0 + (((j + 1 : Nat) : Int) - 1).toNat) e00).1, (E.getD (0 + (((j + 1 : Nat) : Int) - 1).toNat) e00).2, true, 0), [6, 7, 8, 9, 10], ⟨hH.gw (by omega) (by omega), by show (E.getD (0 + (((j + 1 : Nat) : Int) - 1).toNat) e00).1.size ≤ 1000000; omega, by show (E.getD (0 + (((j + 1 : Nat) : Int) - 1).toNat) e00).2.size ≤ 1000000; omega, (hH.addR (by omega) _ _).trans (by exact b1)⟩, rfl, by (repeat' (first | exact True.intro | rfl | assumption | exact mc_ok rfl | exact mr_ok | exact fun _ => rfl | (refine And.intro ?_ ?_) | (intro _ _; rfl) | ((conv => whnf); (first | exact True.intro | (refine And.intro ?_ ?_))))), by (repeat' (first | exact True.intro | rfl | assumption | exact mc_ok rfl | exact mr_ok | exact fun _ => rfl | (refine And.intro ?_ ?_) | (intro _ _; rfl) | ((conv => whnf); (first | exact True.intro | (refine And.intro ?_ ?_))))), fun adr M1 M2 ns m C sr k1 k2 k3 => ?_⟩
        have hH' : MG 1000 1000 (E.drop j) ((E.length : Int) - j) ⟨h.N, h.E, h.seed, adr, M1, M2, ns, m, C, lkA h.N h.E h.lk h.ns (E.getD (0 + (((j + 1 : Nat) : Int) - 1).toNat) e00).1 (E.getD (0 + (((j + 1 : Nat) : Int) - 1).toNat) e00).2, sr⟩ := by
          have := hH.add (by omega) k1 k2 k3
          rw [b2] at this
          exact this.up (by omega)
        (conv => whnf)
        refine ⟨fun hh => absurd (show (!true) = true from hh) (by decide), fun _ => ?_⟩
        (conv => whnf)
        refine ⟨(j, _), [some 1, some 2, some 3, some 4, some 5, some 6, some 12, some 13, some 9, some 10, some 11], by show j < j + 1; omega, ⟨by show j ≤ E.length; omega, hH'⟩, ?_⟩
        (repeat' (first | exact True.intro | rfl | assumption | exact mc_ok rfl | exact mr_ok | exact fun _ => rfl | (refine And.intro ?_ ?_) | (intro _ _; rfl) | ((conv => whnf); (first | exact True.intro | (refine And.intro ?_ ?_)))))
        all_goals exact (show (j : Int) - 1 = IntKind.i64.wrap (((j + 1 : Nat) : Int) - 1 - 1) by rw [wrap_id (by omega) (by omega)]; omega)
      · intro h2
        have h2 : ¬ (0 : Int) ≤ (k : Int) - 1 := of_decide_eq_false h2
        obtain rfl : k = 0 := by omega
        have hH : MG 1000 1000 E 60 h := MG.up (E := E) hH (by omega)
        clear hk h2
        obtain ⟨NL, hNL⟩ : ∃ NL, NL = sortK (ndsE E) := ⟨_, rfl⟩
        have hnl : NL.length ≤ 120 := by rw [hNL, sortK_len]; have := nds_len E; omega
        have hnv : ∀ x ∈ NL, validK x = true := fun x hx => nodes_valid hv (by rw [← hNL]; exact hx)
        have hnod : ∀ {s : Int} {g : GG}, MG 1000 1000 E s g → sortK (keyL g.ns) = NL := fun h => by rw [hNL]; exact h.nodes
        clear hNL
        (conv => whnf)
        refine ⟨(g, NL), [1, 2, 3, 4, 5], ⟨⟨hG.gu.gt, hG.gu.n1⟩, hnod hG⟩, rfl, by (repeat' (first | exact True.intro | rfl | assumption | exact mc_ok rfl | exact mr_ok | exact fun _ => rfl | (refine And.intro ?_ ?_) | (intro _ _; rfl) | ((conv => whnf); (first | exact True.intro | (refine And.intro ?_ ?_))))), by (repeat' (first | exact True.intro | rfl | assumption | exact mc_ok rfl | exact mr_ok | exact fun _ => rfl | (refine And.intro ?_ ?_) | (intro _ _; rfl) | ((conv => whnf); (first | exact True.intro | (refine And.intro ?_ ?_))))), ?_⟩
        (conv => whnf)
        refine ⟨(h, E), [6, 7, 8, 9, 10], ⟨⟨hH.gu.gt, hH.gu.n1⟩, hH.pu, hH.rel, by show E.length ≤ 70000; omega⟩, rfl, by (repeat' (first | exact True.intro | rfl | assumption | exact mc_ok rfl | exact mr_ok | exact fun _ => rfl | (refine And.intro ?_ ?_) | (intro _ _; rfl) | ((conv => whnf); (first | exact True.intro | (refine And.intro ?_ ?_))))), by (repeat' (first | exact True.intro | rfl | assumption | exact mc_ok rfl | exact mr_ok | exact fun _ => rfl | (refine And.intro ?_ ?_) | (intro _ _; rfl) | ((conv => whnf); (first | exact True.intro | (refine And.intro ?_ ?_))))), ?_⟩
        (conv => whnf)
        refine ⟨E, [13, 11], by show E.length ≤ 1000000; omega, rfl, by (repeat' (first | exact True.intro | rfl | assumption | exact mc_ok rfl | exact mr_ok | exact fun _ => rfl | (refine And.intro ?_ ?_) | (intro _ _; rfl) | ((conv => whnf); (first | exact True.intro | (refine And.intro ?_ ?_))))), by (repeat' (first | exact True.intro | rfl | assumption | exact mc_ok rfl | exact mr_ok | exact fun _ => rfl | (refine And.intro ?_ ?_) | (intro _ _; rfl) | ((conv => whnf); (first | exact True.intro | (refine And.intro ?_ ?_))))), ?_⟩
        (conv => whnf)
        refine ⟨fun _ => ?_, fun hh => absurd (show (!true) = true from hh) (by decide)⟩
        (conv => whnf)
        refine ⟨(h, NL), [6, 7, 8, 9, 10], ⟨⟨hH.gu.gt, hH.gu.n1⟩, hnod hH⟩, rfl, by (repeat' (first | exact True.intro | rfl | assumption | exact mc_ok rfl | exact mr_ok | exact fun _ => rfl | (refine And.intro ?_ ?_) | (intro _ _; rfl) | ((conv => whnf); (first | exact True.intro | (refine And.intro ?_ ?_))))), by (repeat' (first | exact True.intro | rfl | assumption | exact mc_ok rfl | exact mr_ok | exact fun _ => rfl | (refine And.intro ?_ ?_) | (intro _ _; rfl) | ((conv => whnf); (first | exact True.intro | (refine And.intro ?_ ?_))))), ?_⟩
        (conv => whnf)
        refine ⟨NL, [14, 12], by show NL.length ≤ 1000000; omega, rfl, by (repeat' (first | exact True.intro | rfl | assumption | exact mc_ok rfl | exact mr_ok | exact fun _ => rfl | (refine And.intro ?_ ?_) | (intro _ _; rfl) | ((conv => whnf); (first | exact True.intro | (refine And.intro ?_ ?_))))), by (repeat' (first | exact True.intro | rfl | assumption | exact mc_ok rfl | exact mr_ok | exact fun _ => rfl | (refine And.intro ?_ ?_) | (intro _ _; rfl) | ((conv => whnf); (first | exact True.intro | (refine And.intro ?_ ?_))))), ?_⟩
        (conv => whnf)
        refine ⟨fun hh => absurd (show (!true) = true from hh) (by decide), fun _ => ?_⟩
        (conv => whnf)
        refine .inl ⟨Nat × GG × GG, fun x => [(7, .ptr 1 0), (9, .ptr 6 0), (12, .sl 11 0 2 E.length false), (14, .sl 12 0 1 NL.length false), (15, i64 x.1)],
          fun x => some (edO c l e) :: (x.2.1.all fun i => i + 1) ++ (x.2.2.all fun i => i + 6) ++ [some (edR E), some (stR NL)],
          fun x => NL.length - x.1, fun x => x.1 ≤ NL.length ∧ MG 1000 1000 E (60 + 1000 * x.1) x.2.1 ∧ MG 1000 1000 E (60 + 1000 * x.1) x.2.2, 13,
          ⟨(0, g, h), [some 1, some 2, some 3, some 4, some 5, some 6, some 7, some 8, some 9, some 10, some 11, some 12], ⟨Nat.zero_le _, hG.up (by omega), hH.up (by omega)⟩, ?_⟩, fun _ => rfl, fun ⟨i, g, h⟩ ⟨hi, hG, hH⟩ => ?_⟩
        · (repeat' (first | exact True.intro | rfl | assumption | exact mc_ok rfl | exact mr_ok | exact fun _ => rfl | (refine And.intro ?_ ?_) | (intro _ _; rfl) | ((conv => whnf); (first | exact True.intro | (refine And.intro ?_ ?_)))))
        have hi : i ≤ NL.length := hi
        have hG : MG 1000 1000 E (60 + 1000 * i) g := hG
        have hH : MG 1000 1000 E (60 + 1000 * i) h := hH
        have ei := zero_add_toNat i
        (conv => whnf)
        constructor
        · intro h1
          have h1 : i < NL.length := by have : (i : Int) < (NL.length : Int) := of_decide_eq_true h1; omega
          have hav := hnv (NL.getD (0 + (i : Int).toNat) eS) (by rw [ei, List.getD_eq_getElem?_getD, List.getElem?_eq_getElem h1]; exact List.getElem_mem h1)
          (conv => whnf)
          refine ⟨by show (0 : Int) ≤ (i : Int); omega, by show (i : Int) < (NL.length : Int); omega, ?_⟩
          (conv => whnf)
          refine ⟨by rw [ei]; exact h1, ?_⟩
          (conv => whnf)
          generalize NL.getD (0 + (i : Int).toNat) eS = a at *
          have haz := (validK_iff.1 hav).2
          have hsa : (srch (chE E) a a).1 = false := Bool.eq_false_iff.2 fun q => hac a ((srch_iff (by omega) a a).1 q)
          obtain ⟨n, hn⟩ : ∃ n, n = ((srch (chE E) a a).2 : Int) := ⟨_, rfl⟩
          refine ⟨(g, a, n), [1, 2, 3, 4, 5], ⟨⟨⟨hG.gu, hG.sb (by omega)⟩, by show a.size ≤ 1000000; omega⟩, by rw [hn]; exact congrArg (fun r : Bool × Int × Int => r.2.1) ((hG.reach a a 1048576).trans (rReach_ok hav hav (by omega)))⟩, rfl, by (repeat' (first | exact True.intro | rfl | assumption | exact mc_ok rfl | exact mr_ok | exact fun _ => rfl | (refine And.intro ?_ ?_) | (intro _ _; rfl) | ((conv => whnf); (first | exact True.intro | (refine And.intro ?_ ?_))))), by (repeat' (first | exact True.intro | rfl | assumption | exact mc_ok rfl | exact mr_ok | exact fun _ => rfl | (refine And.intro ?_ ?_) | (intro _ _; rfl) | ((conv => whnf); (first | exact True.intro | (refine And.intro ?_ ?_))))), fun M1 ns sr k1 k2 k3 => ?_⟩
          have hG := hG.mark k1 k2 k3
          clear k1 k2 k3
          (conv => whnf)
          refine ⟨(_, a, a, (E.length : Int), false, n, 0), [1, 2, 3, 4, 5], ⟨⟨hG.gu, hG.sb (by omega)⟩, by show a.size ≤ 1000000; omega, by show a.size ≤ 1000000; omega, (hG.reach a a E.length).trans (by rw [rReach_ok hav hav (Int.le_refl _), hsa, hn])⟩, rfl, by (repeat' (first | exact True.intro | rfl | assumption | exact mc_ok rfl | exact mr_ok | exact fun _ => rfl | (refine And.intro ?_ ?_) | (intro _ _; rfl) | ((conv => whnf); (first | exact True.intro | (refine And.intro ?_ ?_))))), by (repeat' (first | exact True.intro | rfl | assumption | exact mc_ok rfl | exact mr_ok | exact fun _ => rfl | (refine And.intro ?_ ?_) | (intro _ _; rfl) | ((conv => whnf); (first | exact True.intro | (refine And.intro ?_ ?_))))), fun M1 ns sr k1 k2 k3 => ?_⟩
          have hG := hG.mark k1 k2 k3
          clear k1 k2 k3
          (conv => whnf)
          refine ⟨fun _ => ?_, fun hh => absurd (show (!true) = true from hh) (by decide)⟩
          (conv => whnf)
          refine ⟨(_, a, chE E a), [1, 2, 3, 4, 5], ⟨⟨hG.gu.gt, hG.gu.n1, by show a.size ≤ 1000000; omega, hG.gu.ei⟩, hG.rel.ch hG.pu a⟩, rfl, by (repeat' (first | exact True.intro | rfl | assumption | exact mc_ok rfl | exact mr_ok | exact fun _ => rfl | (refine And.intro ?_ ?_) | (intro _ _; rfl) | ((conv => whnf); (first | exact True.intro | (refine And.intro ?_ ?_))))), by (repeat' (first | exact True.intro | rfl | assumption | exact mc_ok rfl | exact mr_ok | exact fun _ => rfl | (refine And.intro ?_ ?_) | (intro _ _; rfl) | ((conv => whnf); (first | exact True.intro | (refine And.intro ?_ ?_))))), ?_⟩
          (conv => whnf)
          refine ⟨(h, a, chE E a), [6, 7, 8, 9, 10], ⟨⟨hH.gu.gt, hH.gu.n1, by show a.size ≤ 1000000; omega, hH.gu.ei⟩, hH.rel.ch hH.pu a⟩, rfl, by (repeat' (first | exact True.intro | rfl | assumption | exact mc_ok rfl | exact mr_ok | exact fun _ => rfl | (refine And.intro ?_ ?_) | (intro _ _; rfl) | ((conv => whnf); (first | exact True.intro | (refine And.intro ?_ ?_))))), by (repeat' (first | exact True.intro | rfl | assumption | exact mc_ok rfl | exact mr_ok | exact fun _ => rfl | (refine And.intro ?_ ?_) | (intro _ _; rfl) | ((conv => whnf); (first | exact True.intro | (refine And.intro ?_ ?_))))), ?_⟩
          (conv => whnf)
          refine ⟨chE E a, [13, 14], by have := chE_len E a; show (chE E a).length ≤ 1000000; omega, rfl, by (repeat' (first | exact True.intro | rfl | assumption | exact mc_ok rfl | exact mr_ok | exact fun _ => rfl | (refine And.intro ?_ ?_) | (intro _ _; rfl) | ((conv => whnf); (first | exact True.intro | (refine And.intro ?_ ?_))))), by (repeat' (first | exact True.intro | rfl | assumption | exact mc_ok rfl | exact mr_ok | exact fun _ => rfl | (refine And.intro ?_ ?_) | (intro _ _; rfl) | ((conv => whnf); (first | exact True.intro | (refine And.intro ?_ ?_))))), ?_⟩
          (conv => whnf)
          refine ⟨fun _ => ?_, fun hh => absurd (show (!true) = true from hh) (by decide)⟩
          (conv => whnf)
          refine ⟨(_, a, prE E a), [1, 2, 3, 4, 5], ⟨⟨hG.gu.gt, hG.gu.n1, by show a.size ≤ 1000000; omega, hG.gu.ei⟩, hG.rel.pa hG.pu a⟩, rfl, by (repeat' (first | exact True.intro | rfl | assumption | exact mc_ok rfl | exact mr_ok | exact fun _ => rfl | (refine And.intro ?_ ?_) | (intro _ _; rfl) | ((conv => whnf); (first | exact True.intro | (refine And.intro ?_ ?_))))), by (repeat' (first | exact True.intro | rfl | assumption | exact mc_ok rfl | exact mr_ok | exact fun _ => rfl | (refine And.intro ?_ ?_) | (intro _ _; rfl) | ((conv => whnf); (first | exact True.intro | (refine And.intro ?_ ?_))))), ?_⟩
          (conv => whnf)
          refine ⟨(h, a, prE E a), [6, 7, 8, 9, 10], ⟨⟨hH.gu.gt, hH.gu.n1, by show a.size ≤ 1000000; omega, hH.gu.ei⟩, hH.rel.pa hH.pu a⟩, rfl, by (repeat' (first | exact True.intro | rfl | assumption | exact mc_ok rfl | exact mr_ok | exact fun _ => rfl | (refine And.intro ?_ ?_) | (intro _ _; rfl) | ((conv => whnf); (first | exact True.intro | (refine And.intro ?_ ?_))))), by (repeat' (first | exact True.intro | rfl | assumption | exact mc_ok rfl | exact mr_ok | exact fun _ => rfl | (refine And.intro ?_ ?_) | (intro _ _; rfl) | ((conv => whnf); (first | exact True.intro | (refine And.intro ?_ ?_))))), ?_⟩
          (conv => whnf)
          refine ⟨prE E a, [15, 16], by have := prE_len E a; show (prE E a).length ≤ 1000000; omega, rfl, by (repeat' (first | exact True.intro | rfl | assumption | exact mc_ok rfl | exact mr_ok | exact fun _ => rfl | (refine And.intro ?_ ?_) | (intro _ _; rfl) | ((conv => whnf); (first | exact True.intro | (refine And.intro ?_ ?_))))), by (repeat' (first | exact True.intro | rfl | assumption | exact mc_ok rfl | exact mr_ok | exact fun _ => rfl | (refine And.intro ?_ ?_) | (intro _ _; rfl) | ((conv => whnf); (first | exact True.intro | (refine And.intro ?_ ?_))))), ?_⟩
          (conv => whnf)
          refine ⟨fun hh => absurd (show (!true) = true from hh) (by decide), fun _ => ?_⟩
          (conv => whnf)
          refine .inl ⟨Nat × GG × GG, fun x => [(7, .ptr 1 0), (9, .ptr 6 0), (12, .sl 11 0 2 E.length false), (14, .sl 12 0 1 NL.length false), (15, i64 i), (16, .str a), (17, i64 x.1)],
            fun x => some (edO c l e) :: (x.2.1.all fun i => i + 1) ++ (x.2.2.all fun i => i + 6) ++ [some (edR E), some (stR NL)],
            fun x => NL.length - x.1, fun x => x.1 ≤ NL.length ∧ MG 1000 1000 E (70 + 1000 * i + 3 * x.1) x.2.1 ∧ MG 1000 1000 E (70 + 1000 * i + 3 * x.1) x.2.2, 13,
            ⟨(0, _, h), [some 1, some 2, some 3, some 4, some 5, some 6, some 7, some 8, some 9, some 10, some 11, some 12], ⟨Nat.zero_le _, hG.up (by omega), hH.up (by omega)⟩, ?_⟩, fun _ => rfl, fun ⟨k, g, h⟩ ⟨hk, hG, hH⟩ => ?_⟩
          · (repeat' (first | exact True.intro | rfl | assumption | exact mc_ok rfl | exact mr_ok | exact fun _ => rfl | (refine And.intro ?_ ?_) | (intro _ _; rfl) | ((conv => whnf); (first | exact True.intro | (refine And.intro ?_ ?_)))))
          have hk : k ≤ NL.length := hk
          have hG : MG 1000 1000 E (70 + 1000 * i + 3 * k) g := hG
          have hH : MG 1000 1000 E (70 + 1000 * i + 3 * k) h := hH
          have ek := zero_add_toNat k
          (conv => whnf)
          constructor
          · intro h2
            have h2 : k < NL.length := by have : (k : Int) < (NL.length : Int) := of_decide_eq_true h2; omega
            have hbv := hnv (NL.getD (0 + (k : Int).toNat) eS) (by rw [ek, List.getD_eq_getElem?_getD, List.getElem?_eq_getElem h2]; exact List.getElem_mem h2)
            (conv => whnf)
            refine ⟨by show (0 : Int) ≤ (k : Int); omega, by show (k : Int) < (NL.length : Int); omega, ?_⟩
            (conv => whnf)
            refine ⟨by rw [ek]; exact h2, ?_⟩
            (conv => whnf)
            generalize NL.getD (0 + (k : Int).toNat) eS = b at *
            have hbz := (validK_iff.1 hbv).2
            obtain ⟨n1, hn1⟩ : ∃ n, n = ((srch (chE E) a b).2 : Int) := ⟨_, rfl⟩
            obtain ⟨n2, hn2⟩ : ∃ n, n = ((srch (chE E) b a).2 : Int) := ⟨_, rfl⟩
            obtain ⟨p1, hp1⟩ : ∃ n, n = (srch (chE E) a b).1 := ⟨_, rfl⟩
            obtain ⟨p2, hp2⟩ : ∃ n, n = (srch (chE E) b a).1 := ⟨_, rfl⟩
            have r1 : rReach E a b E.length = (p1, n1, 0) := by rw [rReach_ok hav hbv (Int.le_refl _), hn1, hp1]
            have r2 : rReach E b a E.length = (p2, n2, 0) := by rw [rReach_ok hbv hav (Int.le_refl _), hn2, hp2]
            have hnE : n1 ≤ E.length := by rw [hn1]; have := srch_le E a b; omega
            have hpp : p1 = true → p2 = true → False := fun q1 q2 => hac a ((srch_iff (by omega) a b).1 (hp1 ▸ q1) |>.trans ((srch_iff (by omega) b a).1 (hp2 ▸ q2)))
            have hpe : hasE E (a, b) = true → p1 = true := fun q => by rw [hp1]; exact (srch_iff (by omega) a b).2 (.one (hasE_iff.1 q))
            clear hn1 hn2 hp1 hp2
            refine ⟨(g, a, b, (E.length : Int), p1, n1, 0), [1, 2, 3, 4, 5], ⟨⟨hG.gu, hG.sb (by omega)⟩, ⟨by show a.size ≤ 1000000; omega, by show b.size ≤ 1000000; omega⟩, (hG.reach a b E.length).trans r1⟩, rfl, by (repeat' (first | exact True.intro | rfl | assumption | exact mc_ok rfl | exact mr_ok | exact fun _ => rfl | (refine And.intro ?_ ?_) | (intro _ _; rfl) | ((conv => whnf); (first | exact True.intro | (refine And.intro ?_ ?_))))), by (repeat' (first | exact True.intro | rfl | assumption | exact mc_ok rfl | exact mr_ok | exact fun _ => rfl | (refine And.intro ?_ ?_) | (intro _ _; rfl) | ((conv => whnf); (first | exact True.intro | (refine And.intro ?_ ?_))))), fun M1 ns sr k1 k2 k3 => ?_⟩
            have hG := hG.mark k1 k2 k3
            clear k1 k2 k3
            (conv => whnf)
            refine ⟨(_, b, a, (E.length : Int), p2, n2, 0), [1, 2, 3, 4, 5], ⟨⟨hG.gu, hG.sb (by omega)⟩, ⟨by show b.size ≤ 1000000; omega, by show a.size ≤ 1000000; omega⟩, (hG.reach b a E.length).trans r2⟩, rfl, by (repeat' (first | exact True.intro | rfl | assumption | exact mc_ok rfl | exact mr_ok | exact fun _ => rfl | (refine And.intro ?_ ?_) | (intro _ _; rfl) | ((conv => whnf); (first | exact True.intro | (refine And.intro ?_ ?_))))), by (repeat' (first | exact True.intro | rfl | assumption | exact mc_ok rfl | exact mr_ok | exact fun _ => rfl | (refine And.intro ?_ ?_) | (intro _ _; rfl) | ((conv => whnf); (first | exact True.intro | (refine And.intro ?_ ?_))))), fun M1 ns sr k1 k2 k3 => ?_⟩
            have hG := hG.mark k1 k2 k3
            clear k1 k2 k3
            (conv => whnf)
            refine ⟨GG × GG, fun _ => [(7, .ptr 1 0), (9, .ptr 6 0), (12, .sl 11 0 2 E.length false), (14, .sl 12 0 1 NL.length false), (15, i64 i), (16, .str a), (17, i64 k), (18, .str b), (19, .sb p1)],
              fun x => some (edO c l e) :: (x.1.all fun i => i + 1) ++ (x.2.all fun i => i + 6) ++ [some (edR E), some (stR NL)],
              fun x => MG 1000 1000 E (72 + 1000 * i + 3 * k) x.1 ∧ MG 1000 1000 E (72 + 1000 * i + 3 * k) x.2, 13, fun _ => rfl, ?_, fun ⟨g, h⟩ ⟨hG, hH⟩ => ?_⟩
            · (conv => whnf)
              refine ⟨fun _ => ?_, fun hh => Bool.noConfusion (show (!decide ((0 : Int) = 0)) = true from hh)⟩
              (conv => whnf)
              refine ⟨fun _ => ?_, fun hh => Bool.noConfusion (show (!decide ((0 : Int) = 0)) = true from hh)⟩
              (conv => whnf)
              constructor
              · intro g1
                have g1 : p1 = true := g1
                (conv => whnf)
                constructor
                · intro g2
                  (conv => whnf)
                  refine ⟨fun _ => ?_, fun hh => absurd (of_decide_eq_true hh : (E.length : Int) < n1) (by omega)⟩
                  (conv => whnf)
                  refine ⟨(h, a, b, (E.length : Int), p1, n1, 0), [6, 7, 8, 9, 10], ⟨⟨hH.gu, hH.sb (by omega)⟩, by show a.size ≤ 1000000; omega, by show b.size ≤ 1000000; omega, (hH.reach a b E.length).trans r1⟩, rfl, by (repeat' (first | exact True.intro | rfl | assumption | exact mc_ok rfl | exact mr_ok | exact fun _ => rfl | (refine And.intro ?_ ?_) | (intro _ _; rfl) | ((conv => whnf); (first | exact True.intro | (refine And.intro ?_ ?_))))), by (repeat' (first | exact True.intro | rfl | assumption | exact mc_ok rfl | exact mr_ok | exact fun _ => rfl | (refine And.intro ?_ ?_) | (intro _ _; rfl) | ((conv => whnf); (first | exact True.intro | (refine And.intro ?_ ?_))))), fun M1 ns sr k1 k2 k3 => ?_⟩
                  have hH := hH.mark k1 k2 k3
                  (conv => whnf)
                  refine ⟨fun hh => absurd (show (!true) = true from hh) (by decide), fun _ => ?_⟩
                  (conv => whnf)
                  refine ⟨(_, _), [some 1, some 2, some 3, some 4, some 5, some 6, some 7, some 8, some 9, some 10, some 11, some 12], ⟨hG.up (by omega), hH.up (by omega)⟩, ?_⟩
                  (repeat' (first | exact True.intro | rfl | assumption | exact mc_ok rfl | exact mr_ok | exact fun _ => rfl | (refine And.intro ?_ ?_) | (intro _ _; rfl) | ((conv => whnf); (first | exact True.intro | (refine And.intro ?_ ?_)))))
                · intro g2
                  exact (hpp g1 g2).elim
              · intro g1
                have g1 : p1 = false := g1
                (conv => whnf)
                refine ⟨fun _ => ?_, fun hh => absurd (of_decide_eq_true hh : (E.length : Int) < n1) (by omega)⟩
                (conv => whnf)
                refine ⟨(h, a, b, (E.length : Int), p1, n1, 0), [6, 7, 8, 9, 10], ⟨⟨hH.gu, hH.sb (by omega)⟩, by show a.size ≤ 1000000; omega, by show b.size ≤ 1000000; omega, (hH.reach a b E.length).trans r1⟩, rfl, by (repeat' (first | exact True.intro | rfl | assumption | exact mc_ok rfl | exact mr_ok | exact fun _ => rfl | (refine And.intro ?_ ?_) | (intro _ _; rfl) | ((conv => whnf); (first | exact True.intro | (refine And.intro ?_ ?_))))), by (repeat' (first | exact True.intro | rfl | assumption | exact mc_ok rfl | exact mr_ok | exact fun _ => rfl | (refine And.intro ?_ ?_) | (intro _ _; rfl) | ((conv => whnf); (first | exact True.intro | (refine And.intro ?_ ?_))))), fun M1 ns sr k1 k2 k3 => ?_⟩
                have hH := hH.mark k1 k2 k3
                (conv => whnf)
                refine ⟨fun hh => absurd (show (!true) = true from hh) (by decide), fun _ => ?_⟩
                (conv => whnf)
                refine ⟨(_, _), [some 1, some 2, some 3, some 4, some 5, some 6, some 7, some 8, some 9, some 10, some 11, some 12], ⟨hG.up (by omega), hH.up (by omega)⟩, ?_⟩
                (repeat' (first | exact True.intro | rfl | assumption | exact mc_ok rfl | exact mr_ok | exact fun _ => rfl | (refine And.intro ?_ ?_) | (intro _ _; rfl) | ((conv => whnf); (first | exact True.intro | (refine And.intro ?_ ?_)))))
            · have hG : MG 1000 1000 E (72 + 1000 * i + 3 * k) g := hG
              have hH : MG 1000 1000 E (72 + 1000 * i + 3 * k) h := hH
              obtain ⟨P, hP⟩ : ∃ P, P = prE E b := ⟨_, rfl⟩
              have hPl : P.length ≤ 60 := by rw [hP]; have := prE_len E b; omega
              have hPE : hasB P a = hasE E (a, b) := by rw [hP]; exact hasB_prE a b
              have hpar : ∀ {s : Int} {g : GG}, MG 1000 1000 E s g → keysE true g.ns b = P := fun h => by rw [hP]; exact h.rel.pa h.pu b
              clear hP
              (conv => whnf)
              refine .inl ⟨Nat, fun j => [(7, .ptr 1 0), (9, .ptr 6 0), (12, .sl 11 0 2 E.length false), (14, .sl 12 0 1 NL.length false), (15, i64 i), (16, .str a), (17, i64 k), (18, .str b), (19, .sb p1), (25, .sb (hasB (P.take j) a)), (26, i64 j)],
                fun _ => some (edO c l e) :: (g.all fun i => i + 1) ++ (h.all fun i => i + 6) ++ [some (edR E), some (stR NL)],
                fun j => P.length - j, fun j => j ≤ P.length, 13, ⟨0, [some 1, some 2, some 3, some 4, some 5, some 6, some 7, some 8, some 9, some 10, some 11, some 12], Nat.zero_le _, ?_⟩, fun _ => rfl, fun j hj => ?_⟩
              · (repeat' (first | exact True.intro | rfl | assumption | exact mc_ok rfl | exact mr_ok | exact fun _ => rfl | (refine And.intro ?_ ?_) | (intro _ _; rfl) | ((conv => whnf); (first | exact True.intro | (refine And.intro ?_ ?_)))))
                all_goals trace_state
              have hj : j ≤ P.length := hj
              have ej := zero_add_toNat j
              (conv => whnf)
              refine ⟨(g, b, P), [1, 2, 3, 4, 5], ⟨⟨hG.gu.gt, hG.gu.n1, by show b.size ≤ 1000000; omega, hG.gu.ei⟩, hpar hG⟩, rfl, by (repeat' (first | exact True.intro | rfl | assumption | exact mc_ok rfl | exact mr_ok | exact fun _ => rfl | (refine And.intro ?_ ?_) | (intro _ _; rfl) | ((conv => whnf); (first | exact True.intro | (refine And.intro ?_ ?_))))), by (repeat' (first | exact True.intro | rfl | assumption | exact mc_ok rfl | exact mr_ok | exact fun _ => rfl | (refine And.intro ?_ ?_) | (intro _ _; rfl) | ((conv => whnf); (first | exact True.intro | (refine And.intro ?_ ?_))))), ?_⟩
              (conv => whnf)
              constructor
              · intro g1
                have g1 : j < P.length := by have : (j : Int) < (P.length : Int) := of_decide_eq_true g1; omega
                have hsn := hasB_snoc (s := a) g1
                have wj := wrap_inc (n := 1000) (show j < 1000 by omega) (by omega)
                (conv => whnf)
                constructor
                · intro g2
                  have g2 : hasB (P.take j) a = false := g2
                  rw [g2, Bool.false_or] at hsn
                  (conv => whnf)
                  refine ⟨(g, b, P), [1, 2, 3, 4, 5], ⟨⟨hG.gu.gt, hG.gu.n1, by show b.size ≤ 1000000; omega, hG.gu.ei⟩, hpar hG⟩, rfl, by (repeat' (first | exact True.intro | rfl | assumption | exact mc_ok rfl | exact mr_ok | exact fun _ => rfl | (refine And.intro ?_ ?_) | (intro _ _; rfl) | ((conv => whnf); (first | exact True.intro | (refine And.intro ?_ ?_))))), by (repeat' (first | exact True.intro | rfl | assumption | exact mc_ok rfl | exact mr_ok | exact fun _ => rfl | (refine And.intro ?_ ?_) | (intro _ _; rfl) | ((conv => whnf); (first | exact True.intro | (refine And.intro ?_ ?_))))), ?_⟩
                  (conv => whnf)
                  refine ⟨by show (0 : Int) ≤ (j : Int); omega, by show (j : Int) < (P.length : Int); omega, ?_⟩
                  (conv => whnf)
                  refine ⟨by rw [ej]; exact g1, ?_⟩
                  (conv => whnf)
                  refine ⟨j + 1, [some 1, some 2, some 3, some 4, some 5, some 6, some 7, some 8, some 9, some 10, some 11, some 12], by show P.length - (j + 1) < P.length - j; omega, by show j + 1 ≤ P.length; omega, ?_⟩
                  (repeat' (first | exact True.intro | rfl | assumption | exact mc_ok rfl | exact mr_ok | exact fun _ => rfl | (refine And.intro ?_ ?_) | (intro _ _; rfl) | ((conv => whnf); (first | exact True.intro | (refine And.intro ?_ ?_)))))
                  all_goals first | exact wj.symm | (show hasB (P.take (j + 1)) a = decide (P.getD (0 + (j : Int).toNat) eS = a); rw [hsn, ej]; rfl)
                · intro g2
                  have g2 : hasB (P.take j) a = true := g2
                  rw [g2, Bool.true_or] at hsn
                  (conv => whnf)
                  refine ⟨j + 1, [some 1, some 2, some 3, some 4, some 5, some 6, some 7, some 8, some 9, some 10, some 11, some 12], by show P.length - (j + 1) < P.length - j; omega, by show j + 1 ≤ P.length; omega, ?_⟩
                  (repeat' (first | exact True.intro | rfl | assumption | exact mc_ok rfl | exact mr_ok | exact fun _ => rfl | (refine And.intro ?_ ?_) | (intro _ _; rfl) | ((conv => whnf); (first | exact True.intro | (refine And.intro ?_ ?_)))))
                  all_goals first | exact wj.symm | exact hsn
              · intro g1
                have g1 : ¬ j < P.length := by have : ¬ (j : Int) < (P.length : Int) := of_decide_eq_false g1; omega
                rw [List.take_of_length_le (by omega), hPE]
                have hed := hG.edge a b
                (conv => whnf)
                refine ⟨(g, a, b), [1, 2, 3, 4, 5], ⟨hG.gu.gt, hG.gu.n1, by show a.size ≤ 1000000; omega, by show b.size ≤ 1000000; omega, fun i hi => Nat.le_trans (hG.gu.ei.len false i hi) (by omega)⟩, rfl, by (repeat' (first | exact True.intro | rfl | assumption | exact mc_ok rfl | exact mr_ok | exact fun _ => rfl | (refine And.intro ?_ ?_) | (intro _ _; rfl) | ((conv => whnf); (first | exact True.intro | (refine And.intro ?_ ?_))))), by (repeat' (first | exact True.intro | rfl | assumption | exact mc_ok rfl | exact mr_ok | exact fun _ => rfl | (refine And.intro ?_ ?_) | (intro _ _; rfl) | ((conv => whnf); (first | exact True.intro | (refine And.intro ?_ ?_))))), ?_⟩
                (conv => whnf)
                have wk := wrap_inc (n := 1000) (show k < 1000 by omega) (by omega)
                refine ⟨fun _ => ?_, fun hh => ?_⟩
                · (conv => whnf)
                  constructor
                  · intro g2
                    have g2 : p1 = true := hpe g2
                    (conv => whnf)
                    refine ⟨fun hh => absurd (show (!p1) = true from hh) (by rw [g2]; decide), fun _ => ?_⟩
                    (conv => whnf)
                    refine ⟨(k + 1, g, h), [some 1, some 2, some 3, some 4, some 5, some 6, some 7, some 8, some 9, some 10, some 11, some 12], by show NL.length - (k + 1) < NL.length - k; omega, ⟨by show k + 1 ≤ NL.length; omega, hG.up (by omega), hH.up (by omega)⟩, ?_⟩
                    (repeat' (first | exact True.intro | rfl | assumption | exact mc_ok rfl | exact mr_ok | exact fun _ => rfl | (refine And.intro ?_ ?_) | (intro _ _; rfl) | ((conv => whnf); (first | exact True.intro | (refine And.intro ?_ ?_)))))
                    all_goals exact wk.symm
                  · intro g2
                    (conv => whnf)
                    refine ⟨(k + 1, g, h), [some 1, some 2, some 3, some 4, some 5, some 6, some 7, some 8, some 9, some 10, some 11, some 12], by show NL.length - (k + 1) < NL.length - k; omega, ⟨by show k + 1 ≤ NL.length; omega, hG.up (by omega), hH.up (by omega)⟩, ?_⟩
                    (repeat' (first | exact True.intro | rfl | assumption | exact mc_ok rfl | exact mr_ok | exact fun _ => rfl | (refine And.intro ?_ ?_) | (intro _ _; rfl) | ((conv => whnf); (first | exact True.intro | (refine And.intro ?_ ?_)))))
                    all_goals exact wk.symm
                · have hh : ((hasE E (a, b) == edge g.ns a b) == false) = true := hh
                  rw [hed] at hh
                  simp at hh
          · intro h2
            (conv => whnf)
            refine ⟨(i + 1, g, h), [some 1, some 2, some 3, some 4, some 5, some 6, some 7, some 8, some 9, some 10, some 11, some 12], by show NL.length - (i + 1) < NL.length - i; omega, ⟨by show i + 1 ≤ NL.length; omega, hG.up (by omega), hH.up (by omega)⟩, ?_⟩
            (repeat' (first | exact True.intro | rfl | assumption | exact mc_ok rfl | exact mr_ok | exact fun _ => rfl | (refine And.intro ?_ ?_) | (intro _ _; rfl) | ((conv => whnf); (first | exact True.intro | (refine And.intro ?_ ?_)))))
            all_goals exact (wrap_inc h1 (by omega)).symm
        · intro h1
          (conv => whnf)
          refine ⟨[], _, _, hR, ?_⟩
          (repeat' (first | exact True.intro | rfl | assumption | exact mc_ok rfl | exact mr_ok | exact fun _ => rfl | (refine And.intro ?_ ?_) | (intro _ _; rfl) | ((conv => whnf); (first | exact True.intro | (refine And.intro ?_ ?_)))))
end Go.Proofs.Ytmgcpfljhcahoaa
