/- What the law's functions of the trie compute: is, few, step. -/
import Derived.Test.YtngggdlcanpfgaaTrLawR
namespace Go.Proofs.Ytngggdlcanpfgaa
open Go Go.RowKit Sy Ti
set_option maxRecDepth 100000
set_option maxHeartbeats 4000000

theorem conIs : ConOk Try.prog (conOf [(14, SLen.T), (15, SNodes.T), (39, SRNodes.T), (12, SLooks.T)]) :=
  conOf_cons (LSpec.call SLen_nt SLen_ok) (conOf_cons (LSpec.call SNodes_nt SNodes_ok) (conOf_cons (LSpec.call SRNodes_nt SRNodes_ok) (conOf_cons (LSpec.call SLooks_nt SLooks_ok) conOf_nil)))
def SIs : LSpec where
  X := GX
  k := 4
  pre x := GOk x ∧ x.m.length ≤ 1000
  args x θ := [.ptr (θ 0) 0, .sl (θ 3) 0 2 x.m.length false]
  objs x θ := objsG θ x.T x.R x.root x.m.length ++ [prR x.m]
  out x θ R := R (.sb true) (allG θ x.T x.R x.root x.m.length ++ [some (prR x.m)])
theorem SIs_nt : SIs.Nt := ⟨fun _ _ => rfl, by unfold SIs objsG; (intros; simp only [ren_all] at *; try assumption); simp only [prR_ren], by
  unfold SIs allG
  intro x θ R h
  have := h
  simp only [ren_all, prR_ren]
  exact this⟩
theorem SIs_ok : SIs.Ok Try.prog 13 := by
  refine LSpec.of_body noGo mixed conIs Try.func13 rfl (by kernel_rfl) fun ⟨T, M, root, ns, m, s, nn⟩ R hX hR => ?_
  have hg : TG T M root ns m := hX.1.1
  have hl : m.length ≤ 1000 := hX.2
  have hok : GOk ⟨T, M, root, ns, m, eS, 0⟩ := ⟨hg, by show m.length ≤ 900000; omega⟩
  have hnl := hg.twice
  have hQ : R (.sb true) (allG _root_.id T M root m.length ++ [some (prR m)]) := hR
  clear hX hR
  show bodyP _ _ _ _ _ [.ptr 0 0, .sl 3 0 2 m.length false] ⟨4, Tr.ofL 0 (objsG _root_.id T M root m.length ++ [prR m]) .leaf⟩ _
  (conv => whnf)
  refine ⟨((T, M), (root, (m.length : Int))), [0, 1, 2], trivial, rfl, by (repeat' (first | exact True.intro | rfl | assumption | exact tn_ok rfl | exact tr_ok rfl | exact fun _ => rfl | (refine And.intro ?_ ?_) | (intro _ _; rfl) | ((conv => whnf); (first | exact True.intro | (refine And.intro ?_ ?_))))), by (repeat' (first | exact True.intro | rfl | assumption | exact tn_ok rfl | exact tr_ok rfl | exact fun _ => rfl | (refine And.intro ?_ ?_) | (intro _ _; rfl) | ((conv => whnf); (first | exact True.intro | (refine And.intro ?_ ?_))))), ?_⟩
  (conv => whnf)
  refine ⟨fun _ => ?_, fun hh => eqd' hh⟩
  (conv => whnf)
  refine ⟨⟨T, M, root, ns, m.length, eS⟩, [0, 1, 2], ⟨hg.ts, by show ns.length ≤ 10000000; omega⟩, rfl, by (repeat' (first | exact True.intro | rfl | assumption | exact tn_ok rfl | exact tr_ok rfl | exact fun _ => rfl | (refine And.intro ?_ ?_) | (intro _ _; rfl) | ((conv => whnf); (first | exact True.intro | (refine And.intro ?_ ?_))))), by (repeat' (first | exact True.intro | rfl | assumption | exact tn_ok rfl | exact tr_ok rfl | exact fun _ => rfl | (refine And.intro ?_ ?_) | (intro _ _; rfl) | ((conv => whnf); (first | exact True.intro | (refine And.intro ?_ ?_))))), ?_⟩
  (conv => whnf)
  refine ⟨m, [3], ⟨hl, fun y hy => (hg.cn.pos hg.ts hy).2.2⟩, rfl, by (repeat' (first | exact True.intro | rfl | assumption | exact tn_ok rfl | exact tr_ok rfl | exact fun _ => rfl | (refine And.intro ?_ ?_) | (intro _ _; rfl) | ((conv => whnf); (first | exact True.intro | (refine And.intro ?_ ?_))))), by (repeat' (first | exact True.intro | rfl | assumption | exact tn_ok rfl | exact tr_ok rfl | exact fun _ => rfl | (refine And.intro ?_ ?_) | (intro _ _; rfl) | ((conv => whnf); (first | exact True.intro | (refine And.intro ?_ ?_))))), fun L hL => ?_⟩
  have hL : NI (SP m) L := hL
  have en := hg.nodes hL.nd hL.mem
  (conv => whnf)
  refine ⟨fun _ => ?_, fun hh => absurd (show decide ((ns.length : Int) = (L.length : Int)) = false from hh) (by rw [en]; simp)⟩
  (conv => whnf)
  refine ⟨⟨T, M, root, ns, m, eS, 0⟩, [0, 1, 2, 3], ⟨hok, hl⟩, rfl, by (repeat' (first | exact True.intro | rfl | assumption | exact tn_ok rfl | exact tr_ok rfl | exact fun _ => rfl | (refine And.intro ?_ ?_) | (intro _ _; rfl) | ((conv => whnf); (first | exact True.intro | (refine And.intro ?_ ?_))))), by (repeat' (first | exact True.intro | rfl | assumption | exact tn_ok rfl | exact tr_ok rfl | exact fun _ => rfl | (refine And.intro ?_ ?_) | (intro _ _; rfl) | ((conv => whnf); (first | exact True.intro | (refine And.intro ?_ ?_))))), ?_⟩
  (conv => whnf)
  refine ⟨[], _, _, hQ, ?_⟩
  (repeat' (first | exact True.intro | rfl | assumption | exact tn_ok rfl | exact tr_ok rfl | exact fun _ => rfl | (refine And.intro ?_ ?_) | (intro _ _; rfl) | ((conv => whnf); (first | exact True.intro | (refine And.intro ?_ ?_)))))
theorem conCu : ConOk Try.prog (conOf [(21, GCut.T)]) := conOf_cons (LSpec.call GCut_nt GCut_ok) conOf_nil
theorem conRm : ConOk Try.prog (conOf [(20, GRemove.T)]) := conOf_cons (LSpec.call GRemove_nt GRemove_ok) conOf_nil
theorem setE_len {m : List Pr} {s : Bs} {n : Int} (h : SrtP m) : (setE m s n).1.length ≤ m.length + 1 ∧ SrtP (setE m s n).1 := by
  unfold setE
  split
  · refine ⟨?_, h.setR s n⟩
    show (setR m s n).length ≤ _
    rw [setR_del h]
    have : (delR m s).length ≤ m.length := List.length_filter_le ..
    omega
  · exact ⟨Nat.le_succ _, h⟩
end Go.Proofs.Ytngggdlcanpfgaa
