/- What the law's own functions compute: sorted, checks, tombs, below, above. -/
import Derived.Test.YtddionboojdjlaaCaStrR
namespace Go.Proofs.Ytddionboojdjlaa
open Go Go.RowKit Sy Tb Gr
set_option maxRecDepth 100000
set_option maxHeartbeats 8000000

namespace Gr
theorem topo_len (E : List Ed) : ∀ (f : Nat) (out : List Bs), (topo E f out).length ≤ out.length + f
  | 0, _ => Nat.le_refl _
  | f + 1, out => by
    cases h : nextE E out with
    | some x =>
      rw [topo_some h]
      have := topo_len E f (out ++ [x])
      rw [List.length_append, List.length_singleton] at this
      omega
    | none => rw [topo_none h]; exact Nat.le_add_right _ _
end Gr

theorem conLso : ConOk Try.prog (conOf [(24, SSortedC.T), (36, SStringsN.T)]) := conOf_cons (LSpec.call SSortedC_nt SSortedC_ok) (conOf_cons (LSpec.call SStringsN_nt SStringsN_ok) conOf_nil)
def SLSorted : LSpec where
  X := GX × List Bs
  k := 6
  pre x := GXok x.1 ∧ sortedE x.1.2.1 = x.2
  args x θ := [.ptr (θ 0) 0, .sl (θ 5) 0 1 x.2.length false, i64 0]
  objs x θ := x.1.1.objs θ ++ [stR x.2]
  out x θ R := ∀ g : GG, MG 1000 1000 x.1.2.1 (x.1.2.2 + 1) g → R (.sb true) (g.all θ ++ [some (stR x.2)])
theorem SLSorted_nt : SLSorted.Nt := ⟨fun _ _ => rfl, by unfold SLSorted GG.objs; intros; simp only [ren_all, List.map_append] at *; try rfl, by unfold SLSorted GG.all; intros; simp only [ren_all, List.map_append] at *; try assumption⟩
theorem SLSorted_ok : SLSorted.Ok Try.prog 12 := by
  refine LSpec.of_body noGo mixed conLso Try.func12 rfl (by kernel_rfl) fun ⟨⟨g, E, s⟩, W⟩ R ⟨hX, hw⟩ hR => ?_
  have hX : GXok (g, E, s) := hX
  have hEl : E.length ≤ 300 := hX.2.1
  have hw : sortedE E = W := hw
  have hWl : W.length ≤ 1000000 := by
    have := (topo_len E (ndK E).length [])
    rw [← hw]
    unfold sortedE
    have := ndK_len (E := E)
    rw [List.length_nil] at *
    omega
  have hQ : ∀ g' : GG, MG 1000 1000 E (s + 1) g' → R (.sb true) (g'.all _root_.id ++ [some (stR W)]) := hR
  (conv => whnf)
  refine ⟨(g, E, s), [0, 1, 2, 3, 4], hX, rfl, by (repeat' (first | exact True.intro | rfl | assumption | exact mc_ok rfl | exact mr_ok | exact fun _ => rfl | exact mt_keep _ _ | exact ms_ok | exact c_keep _ _ _ | (refine And.intro ?_ ?_) | (intro _ _; rfl) | ((conv => whnf); (first | exact True.intro | (refine And.intro ?_ ?_))))), by (repeat' (first | exact True.intro | rfl | assumption | exact mc_ok rfl | exact mr_ok | exact fun _ => rfl | exact mt_keep _ _ | exact ms_ok | exact c_keep _ _ _ | (refine And.intro ?_ ?_) | (intro _ _; rfl) | ((conv => whnf); (first | exact True.intro | (refine And.intro ?_ ?_))))), fun g' hG => ?_⟩
  have hF := hQ g' hG
  (conv => whnf)
  refine ⟨(W, W, 0), [6, 5], ⟨List.prefix_rfl, hWl⟩, rfl, ?_, ?_, ?_⟩
  · (repeat' (first | exact True.intro | rfl | assumption | exact mc_ok rfl | exact mr_ok | exact fun _ => rfl | exact mt_keep _ _ | exact ms_ok | exact c_keep _ _ _ | (refine And.intro ?_ ?_) | (intro _ _; rfl) | ((conv => whnf); (first | exact True.intro | (refine And.intro ?_ ?_)))))
    all_goals (first | exact congrArg List.length hw.symm | exact congrArg (fun l : List Bs => l.length) hw.symm)
  · (repeat' (first | exact True.intro | rfl | assumption | exact mc_ok rfl | exact mr_ok | exact fun _ => rfl | exact mt_keep _ _ | exact ms_ok | exact c_keep _ _ _ | (refine And.intro ?_ ?_) | (intro _ _; rfl) | ((conv => whnf); (first | exact True.intro | (refine And.intro ?_ ?_)))))
    all_goals (first | exact congrArg List.length hw.symm | (intro q _; show [V.str (W.getD q eS)] = [V.str ((sortedE E).getD q eS)]; rw [hw]))
  (conv => whnf)
  refine ⟨[], _, _, hF, ?_⟩
  (repeat' (first | exact True.intro | rfl | assumption | exact mc_ok rfl | exact mr_ok | exact fun _ => rfl | exact mt_keep _ _ | exact ms_ok | exact c_keep _ _ _ | (refine And.intro ?_ ?_) | (intro _ _; rfl) | ((conv => whnf); (first | exact True.intro | (refine And.intro ?_ ?_)))))

theorem conLckN : ConOk Try.prog (conOf [(37, SCheckL.T), (38, SStrN.T)]) := conOf_cons (LSpec.call SCheckL_nt SCheckL_ok) (conOf_cons (LSpec.call SStrN_nt SStrN_ok) conOf_nil)
def SLChkN : LSpec where
  X := GX × Int × (List Bs) × List Bs
  k := 6
  pre x := GXok x.1 ∧ szL x.2.2.2 ∧ chkK x.1.2.1 x.2.2.2 = x.2.1 ∧ x.2.2.2 <+: x.2.2.1
  args x θ := [.ptr (θ 0) 0, .sl (θ 5) 0 1 x.2.2.2.length false, i64 x.2.1, i64 0]
  objs x θ := x.1.1.objs θ ++ [stR x.2.2.1]
  out x θ R := ∀ g : GG, MG 1000 1000 x.1.2.1 (x.1.2.2 + 1) g → R (.sb true) (g.all θ ++ [some (stR x.2.2.1)])
theorem SLChkN_nt : SLChkN.Nt := ⟨fun _ _ => rfl, by unfold SLChkN GG.objs; intros; simp only [ren_all, List.map_append] at *; try rfl, by unfold SLChkN GG.all; intros; simp only [ren_all, List.map_append] at *; try assumption⟩
theorem SLChkN_ok : SLChkN.Ok Try.prog 13 := by
  refine LSpec.of_body noGo mixed conLckN Try.func13 rfl (by kernel_rfl) fun ⟨⟨g, E, s⟩, want, W, L⟩ R ⟨hX, hz, hc, hw⟩ hR => ?_
  have hX : GXok (g, E, s) := hX
  have hEl : E.length ≤ 300 := hX.2.1
  have hw : L <+: W := hw
  have hc : chkK E L = want := hc
  have hz : szL L := hz
  have hl : L.length ≤ 100000 := hz.1
  have hQ : ∀ g' : GG, MG 1000 1000 E (s + 1) g' → R (.sb true) (g'.all _root_.id ++ [some (stR W)]) := hR

  (conv => whnf)
  refine ⟨some (fun q => [.str (L.getD q eS)]), ?_⟩
  (conv => whnf)
  refine ⟨by show 0 + L.length ≤ W.length; have := hw.length_le; omega, by show L.length * (16 + 1) ≤ 1000000000; omega, fun q hq => str_view hw q hq, ?_⟩
  (conv => whnf)
  refine ⟨((g, E, s), L), [0, 1, 2, 3, 4, 6], ⟨hX, hz⟩, rfl, by (repeat' (first | exact True.intro | rfl | assumption | exact mc_ok rfl | exact mr_ok | exact fun _ => rfl | exact mt_keep _ _ | exact ms_ok | exact c_keep _ _ _ | (refine And.intro ?_ ?_) | (intro _ _; rfl) | ((conv => whnf); (first | exact True.intro | (refine And.intro ?_ ?_))))), by (repeat' (first | exact True.intro | rfl | assumption | exact mc_ok rfl | exact mr_ok | exact fun _ => rfl | exact mt_keep _ _ | exact ms_ok | exact c_keep _ _ _ | (refine And.intro ?_ ?_) | (intro _ _; rfl) | ((conv => whnf); (first | exact True.intro | (refine And.intro ?_ ?_))))), fun g' hG => ?_⟩
  have hF := hQ g' hG
  (conv => whnf)
  refine ⟨fun _ => ?_, fun hh => absurd hc (of_decide_eq_false (show decide (chkK E L = want) = false from hh))⟩
  (conv => whnf)
  refine ⟨fun _ => ?_, fun hh => Bool.noConfusion (show true = false from hh)⟩
  (conv => whnf)
  refine ⟨(L, W), [6, 5], ⟨hw, by show L.length ≤ 1000000; omega⟩, rfl, by (repeat' (first | exact True.intro | rfl | assumption | exact mc_ok rfl | exact mr_ok | exact fun _ => rfl | exact mt_keep _ _ | exact ms_ok | exact c_keep _ _ _ | (refine And.intro ?_ ?_) | (intro _ _; rfl) | ((conv => whnf); (first | exact True.intro | (refine And.intro ?_ ?_))))), by (repeat' (first | exact True.intro | rfl | assumption | exact mc_ok rfl | exact mr_ok | exact fun _ => rfl | exact mt_keep _ _ | exact ms_ok | exact c_keep _ _ _ | (refine And.intro ?_ ?_) | (intro _ _; rfl) | ((conv => whnf); (first | exact True.intro | (refine And.intro ?_ ?_))))), ?_⟩
  (conv => whnf)
  refine ⟨[], _, _, hF, ?_⟩
  (repeat' (first | exact True.intro | rfl | assumption | exact mc_ok rfl | exact mr_ok | exact fun _ => rfl | exact mt_keep _ _ | exact ms_ok | exact c_keep _ _ _ | (refine And.intro ?_ ?_) | (intro _ _; rfl) | ((conv => whnf); (first | exact True.intro | (refine And.intro ?_ ?_)))))

theorem conLck0 : ConOk Try.prog (conOf [(37, SCheckL.T), (38, SStr0.T)]) := conOf_cons (LSpec.call SCheckL_nt SCheckL_ok) (conOf_cons (LSpec.call SStr0_nt SStr0_ok) conOf_nil)
def SLChk0 : LSpec where
  X := GX × Int × (Unit) × List Bs
  k := 5
  pre x := GXok x.1 ∧ szL x.2.2.2 ∧ chkK x.1.2.1 x.2.2.2 = x.2.1 ∧ x.2.2.2 = []
  args x θ := [.ptr (θ 0) 0, .nils, i64 x.2.1, i64 0]
  objs x θ := x.1.1.objs θ ++ []
  out x θ R := ∀ g : GG, MG 1000 1000 x.1.2.1 (x.1.2.2 + 1) g → R (.sb true) (g.all θ ++ [])
theorem SLChk0_nt : SLChk0.Nt := ⟨fun _ _ => rfl, by unfold SLChk0 GG.objs; intros; simp only [ren_all] at *; try rfl, by unfold SLChk0 GG.all; intros; simp only [ren_all] at *; try assumption⟩
theorem SLChk0_ok : SLChk0.Ok Try.prog 13 := by
  refine LSpec.of_body noGo mixed conLck0 Try.func13 rfl (by kernel_rfl) fun ⟨⟨g, E, s⟩, want, _, L⟩ R ⟨hX, hz, hc, hw⟩ hR => ?_
  have hX : GXok (g, E, s) := hX
  have hEl : E.length ≤ 300 := hX.2.1
  have hw : L = [] := hw
  have hc : chkK E L = want := hc
  have hz : szL L := hz
  have hl : L.length ≤ 100000 := hz.1
  have hQ : ∀ g' : GG, MG 1000 1000 E (s + 1) g' → R (.sb true) (g'.all _root_.id ++ []) := hR
  subst hw
  (conv => whnf)
  refine ⟨some (fun q => [.str (([] : List Bs).getD q eS)]), ?_⟩
  (conv => whnf)
  refine ⟨by decide, fun q hq => absurd hq (Nat.not_lt_zero q), ?_⟩
  (conv => whnf)
  refine ⟨((g, E, s), []), [0, 1, 2, 3, 4, 5], ⟨hX, hz⟩, rfl, by (repeat' (first | exact True.intro | rfl | assumption | exact mc_ok rfl | exact mr_ok | exact fun _ => rfl | exact mt_keep _ _ | exact ms_ok | exact c_keep _ _ _ | (refine And.intro ?_ ?_) | (intro _ _; rfl) | ((conv => whnf); (first | exact True.intro | (refine And.intro ?_ ?_))))), by (repeat' (first | exact True.intro | rfl | assumption | exact mc_ok rfl | exact mr_ok | exact fun _ => rfl | exact mt_keep _ _ | exact ms_ok | exact c_keep _ _ _ | (refine And.intro ?_ ?_) | (intro _ _; rfl) | ((conv => whnf); (first | exact True.intro | (refine And.intro ?_ ?_))))), fun g' hG => ?_⟩
  have hF := hQ g' hG
  (conv => whnf)
  refine ⟨fun _ => ?_, fun hh => absurd hc (of_decide_eq_false (show decide (chkK E [] = want) = false from hh))⟩
  (conv => whnf)
  refine ⟨fun _ => ?_, fun hh => Bool.noConfusion (show true = false from hh)⟩
  (conv => whnf)
  refine ⟨([], ()), [5], ⟨rfl, by show 0 ≤ 1000000; omega⟩, rfl, by (repeat' (first | exact True.intro | rfl | assumption | exact mc_ok rfl | exact mr_ok | exact fun _ => rfl | exact mt_keep _ _ | exact ms_ok | exact c_keep _ _ _ | (refine And.intro ?_ ?_) | (intro _ _; rfl) | ((conv => whnf); (first | exact True.intro | (refine And.intro ?_ ?_))))), by (repeat' (first | exact True.intro | rfl | assumption | exact mc_ok rfl | exact mr_ok | exact fun _ => rfl | exact mt_keep _ _ | exact ms_ok | exact c_keep _ _ _ | (refine And.intro ?_ ?_) | (intro _ _; rfl) | ((conv => whnf); (first | exact True.intro | (refine And.intro ?_ ?_))))), ?_⟩
  (conv => whnf)
  refine ⟨[], _, _, hF, ?_⟩
  (repeat' (first | exact True.intro | rfl | assumption | exact mc_ok rfl | exact mr_ok | exact fun _ => rfl | exact mt_keep _ _ | exact ms_ok | exact c_keep _ _ _ | (refine And.intro ?_ ?_) | (intro _ _; rfl) | ((conv => whnf); (first | exact True.intro | (refine And.intro ?_ ?_)))))

end Go.Proofs.Ytddionboojdjlaa
