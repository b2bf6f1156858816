/- What the functions of package graph compute: Nodes. -/
import Derived.Test.YtmgcpfljhcahoaaGrPrg5R
namespace Go.Proofs.Ytmgcpfljhcahoaa
open Go Sy Tb Gr
set_option maxRecDepth 100000
set_option maxHeartbeats 2000000

theorem conNd : ConOk Try.prog (conOf [(46, inl Try.prog (conOf []) Try.f46), (51, SSortS.T)]) :=
  conOf_cons (inl_ok noGo mixed conOf_nil Try.func46 (by kernel_rfl)) (conOf_cons (LSpec.call SSortS_nt SSortS_ok) conOf_nil)
def keyL (ns : List NS) : List Bs := ns.map (·.key)
theorem keyL_get {ns : List NS} {i : Nat} (h : i < ns.length) : (keyL ns).getD i eS = keyAt ns i := by
  unfold keyL
  rw [List.getD_eq_getElem?_getD, List.getElem?_map, List.getElem?_eq_getElem h, key_get h]
  rfl
def SNodes : LSpec where
  X := GG
  k := 5
  pre x := GT x x.ns.length ∧ 1 ≤ x.N
  args _ θ := [.ptr (θ 0) 0]
  objs x θ := x.objs θ
  out x θ R := R (.sl (θ 5) 0 1 (sortK (keyL x.ns)).length false) (x.all θ ++ [some (stR (sortK (keyL x.ns)))])
theorem SNodes_ok : SNodes.Ok Try.prog 23 := by
  refine LSpec.of_body noGo mixed conNd Try.func23 rfl (by kernel_rfl) fun g R ⟨hG, hN⟩ hR => ?_
  have hG : GT g g.ns.length := hG
  have hN : 1 ≤ g.N := hN
  have hgi := hG.gi
  have hnl := hG.nle
  have hQ : R (.sl 5 0 1 (sortK (keyL g.ns)).length false) (g.all _root_.id ++ [some (stR (sortK (keyL g.ns)))]) := hR
  have hkl : (keyL g.ns).length = g.ns.length := List.length_map ..
  have hkk : ∀ i, i < g.ns.length → (keyL g.ns).getD i eS = keyAt g.ns i := fun i hi => keyL_get hi
  generalize keyL g.ns = K at *
  (conv => whnf)
  refine ⟨fun hh => absurd (show decide (g.N = 0) = true from hh) (by rw [decide_eq_false (by omega)]; decide), fun _ => ?_⟩
  (conv => whnf)
  refine .inl ⟨Nat, fun i => [(3, .sl 5 0 1 i false), (11, .sl 1 0 1 g.ns.length false), (12, i64 g.ns.length), (13, i64 i)], fun i => [some (grC 1 2 g.N g.E g.seed g.ns.length g.m g.lk g.sr), some (lsR 3 g.ns.length g.adr), some (ceR g.m g.C), some (mcO 4 g.M1), some (mrO g.M2), some (stP i K)], fun i => g.ns.length - i, fun i => i ≤ g.ns.length, 6, ⟨0, [none], Nat.zero_le _, ?_⟩, fun _ => rfl, fun i hi => ?_⟩
  · (repeat' (first | exact True.intro | rfl | assumption | exact mc_ok rfl | exact mr_ok | exact fun _ => rfl | (refine And.intro ?_ ?_) | (intro _ _; rfl) | ((conv => whnf); (first | exact True.intro | (refine And.intro ?_ ?_)))))
  have hi : i ≤ g.ns.length := hi
  have ei := zero_add_toNat i
  (conv => whnf)
  constructor
  · intro h
    have h : i < g.ns.length := by have : (i : Int) < (g.ns.length : Int) := of_decide_eq_true h; omega
    obtain ⟨nd2, hM2, hkey2⟩ := hgi.nd h
    (conv => whnf)
    refine ⟨by show (0 : Int) ≤ (i : Int); omega, by show (i : Int) < (g.ns.length : Int); omega, ?_⟩
    (conv => whnf)
    refine ⟨by rw [ei]; exact h, ?_⟩
    (conv => whnf)
    refine ⟨ndL 4 nd2, by show (g.M1 (g.adr (0 + (i : Int).toNat))).map (ndL 4) = _; rw [ei, hM2]; rfl, ?_⟩
    (conv => whnf)
    refine ⟨some (fun q => [.str (K.getD q eS)]), ?_⟩
    (conv => whnf)
    refine ⟨by decide, by show 0 + i ≤ i; omega, by show (i + 1) * (16 + 1) ≤ 1000000000; omega, fun q hq => str_push (by rw [hkk i h]; exact hkey2.symm) q hq, ?_⟩
    (conv => whnf)
    refine ⟨i + 1, [some 7], by show g.ns.length - (i + 1) < g.ns.length - i; omega, by show i + 1 ≤ g.ns.length; omega, ?_⟩
    (repeat' (first | exact True.intro | rfl | assumption | exact mc_ok rfl | exact mr_ok | exact fun _ => rfl | (refine And.intro ?_ ?_) | (intro _ _; rfl) | ((conv => whnf); (first | exact True.intro | (refine And.intro ?_ ?_)))))
    exact (wrap_inc h (by omega)).symm
  · intro h
    have h : ¬ i < g.ns.length := by have : ¬ (i : Int) < (g.ns.length : Int) := of_decide_eq_false h; omega
    have hie : i = K.length := by omega
    subst hie
    (conv => whnf)
    refine ⟨K, [5], by show K.length ≤ 1000000; omega, rfl, by (repeat' (first | exact True.intro | rfl | assumption | exact mc_ok rfl | exact mr_ok | exact fun _ => rfl | (refine And.intro ?_ ?_) | (intro _ _; rfl) | ((conv => whnf); (first | exact True.intro | (refine And.intro ?_ ?_))))), by (repeat' (first | exact True.intro | rfl | assumption | exact mc_ok rfl | exact mr_ok | exact fun _ => rfl | (refine And.intro ?_ ?_) | (intro _ _; rfl) | ((conv => whnf); (first | exact True.intro | (refine And.intro ?_ ?_))))), ?_⟩
    (conv => whnf)
    refine ⟨[some 5], _, _, hQ, ?_⟩
    (repeat' (first | exact True.intro | rfl | assumption | exact mc_ok rfl | exact mr_ok | exact fun _ => rfl | (refine And.intro ?_ ?_) | (intro _ _; rfl) | ((conv => whnf); (first | exact True.intro | (refine And.intro ?_ ?_)))))
    all_goals exact sortK_len K
end Go.Proofs.Ytmgcpfljhcahoaa
