/- What the law's functions compute: the small ones. -/
import Derived.Test.YtapjncdcjahlkaaExRef2
namespace Go.Proofs.Ytapjncdcjahlkaa
open Go Go.RowKit Sy Ex Al
set_option maxRecDepth 100000

theorem conLw : ConOk Try.prog (conOf [(31, SFirst.T), (25, SRemove.T), (26, SDue.T), (16, SSame.T)]) :=
  conOf_cons (LSpec.call SFirst_nt SFirst_ok) (conOf_cons (LSpec.call SRemove_nt SRemove_ok) (conOf_cons (LSpec.call SDue_nt SDue_ok) (conOf_cons (LSpec.call SSame_nt SSame_ok) conOf_nil)))
def SLFirst : LSpec where
  X := HX × Cell × Int
  k := 3
  pre x := HW x.1.1 x.1.2.1 x.1.2.2.1 x.1.2.2.2.1 x.1.2.2.2.2 ∧ firstW x.1.2.2.2.2 = x.2
  args x θ := [.ptr (θ 0) 0, tmV x.2.1, i64 x.2.2]
  objs x θ := [hpC (θ 1) (θ 2) x.1.1, tmR x.1.2.1 x.1.2.2.1, mpE x.1.2.2.2.1]
  out x θ R := R (.sb true) [some (hpC (θ 1) (θ 2) x.1.1), some (tmR x.1.2.1 x.1.2.2.1), some (mpE x.1.2.2.2.1)]
theorem SLFirst_nt : SLFirst.Nt := ⟨fun _ _ => rfl, by unfold SLFirst; (intros; simp only [ren_all] at *; try assumption), by unfold SLFirst; (intros; simp only [ren_all] at *; try assumption)⟩
theorem SLFirst_ok : SLFirst.Ok Try.prog 12 := by
  refine LSpec.of_body noGo mixed conLw Try.func12 rfl (by kernel_rfl) fun ⟨⟨n, N, L, E, w⟩, c, e⟩ R ⟨h, he⟩ hR => ?_
  have h : HW n N L E w := h
  have he : firstW w = (c, e) := he
  have hQ : R (.sb true) [some (hpC 1 2 n), some (tmR N L), some (mpE E)] := hR
  (conv => whnf)
  refine ⟨(n, N, L, E, w), [0, 1, 2], h, rfl, by (repeat' (first | exact True.intro | rfl | assumption | exact entI_keep _ _ | (refine And.intro ?_ ?_) | (intro _ _; rfl) | ((conv => whnf); (first | exact True.intro | (refine And.intro ?_ ?_))))), by (repeat' (first | exact True.intro | rfl | assumption | exact entI_keep _ _ | (refine And.intro ?_ ?_) | (intro _ _; rfl) | ((conv => whnf); (first | exact True.intro | (refine And.intro ?_ ?_))))), ?_⟩
  (conv => whnf)
  refine ⟨tmGuard, tmEq _ _ _ _, ?_⟩
  (conv => whnf)
  refine ⟨fun _ => ?_, fun hh => absurd (show eqL (tmL (firstW w).1) (tmL c) = false from hh) (by rw [eqL_tm, he]; simp)⟩
  (conv => whnf)
  refine ⟨[], _, _, hQ, ?_⟩
  (repeat' (first | exact True.intro | rfl | assumption | exact entI_keep _ _ | (refine And.intro ?_ ?_) | (intro _ _; rfl) | ((conv => whnf); (first | exact True.intro | (refine And.intro ?_ ?_)))))
  all_goals (show true = decide ((firstW w).2 = e); rw [he]; simp)
def SLRem : LSpec where
  X := HX × Int × Int × Int
  k := 3
  pre x := HW x.1.1 x.1.2.1 x.1.2.2.1 x.1.2.2.2.1 x.1.2.2.2.2 ∧ (remW x.1.2.2.2.2 x.2.1).2 = x.2.2 ∧ x.1.1 ≤ 10000
  args x θ := [.ptr (θ 0) 0, i64 x.2.1, u64 x.2.2.1, i64 x.2.2.2]
  objs x θ := [hpC (θ 1) (θ 2) x.1.1, tmR x.1.2.1 x.1.2.2.1, mpE x.1.2.2.2.1]
  out x θ R := ∀ n' L' E', HW n' x.1.2.1 L' E' (remW x.1.2.2.2.2 x.2.1).1 → R (.sb true) [some (hpC (θ 1) (θ 2) n'), some (tmR x.1.2.1 L'), some (mpE E')]
theorem SLRem_nt : SLRem.Nt := ⟨fun _ _ => rfl, by unfold SLRem; (intros; simp only [ren_all] at *; try assumption), by unfold SLRem; (intros; simp only [ren_all] at *; try assumption)⟩
theorem SLRem_ok : SLRem.Ok Try.prog 13 := by
  refine LSpec.of_body noGo mixed conLw Try.func13 rfl (by kernel_rfl) fun ⟨⟨n, N, L, E, w⟩, s, a, e⟩ R ⟨h, he, hn⟩ hR => ?_
  have h : HW n N L E w := h
  have he : (remW w s).2 = (a, e) := he
  have hn : n ≤ 10000 := hn
  have hQ : ∀ n' L' E', HW n' N L' E' (remW w s).1 → R (.sb true) [some (hpC 1 2 n'), some (tmR N L'), some (mpE E')] := hR
  (conv => whnf)
  refine ⟨((n, N, L, E, w), s), [0, 1, 2], ⟨h, by show n ≤ 100000; omega⟩, rfl, by (repeat' (first | exact True.intro | rfl | assumption | exact entI_keep _ _ | (refine And.intro ?_ ?_) | (intro _ _; rfl) | ((conv => whnf); (first | exact True.intro | (refine And.intro ?_ ?_))))), by (repeat' (first | exact True.intro | rfl | assumption | exact entI_keep _ _ | (refine And.intro ?_ ?_) | (intro _ _; rfl) | ((conv => whnf); (first | exact True.intro | (refine And.intro ?_ ?_))))), fun n' L' E' h' => ?_⟩
  have hRR := hQ _ _ _ h'
  (conv => whnf)
  refine ⟨fun _ => ?_, fun hh => absurd (show decide ((remW w s).2.1 = a) = false from hh) (by rw [he]; simp)⟩
  (conv => whnf)
  refine ⟨[], _, _, hRR, ?_⟩
  (repeat' (first | exact True.intro | rfl | assumption | exact entI_keep _ _ | (refine And.intro ?_ ?_) | (intro _ _; rfl) | ((conv => whnf); (first | exact True.intro | (refine And.intro ?_ ?_)))))
  all_goals (show true = decide ((remW w s).2.2 = e); rw [he]; simp)
def SLDues : LSpec where
  X := HX × Int
  k := 4
  pre x := HW x.1.1 x.1.2.1 x.1.2.2.1 x.1.2.2.2.1 x.1.2.2.2.2 ∧ x.1.1 ≤ 10000
  args x θ := [.ptr (θ 0) 0, u64 x.2, .sl (θ 3) 0 2 (Ex.dues x.2 x.1.2.2.2.2).length false, i64 0]
  objs x θ := [hpC (θ 1) (θ 2) x.1.1, tmR x.1.2.1 x.1.2.2.1, mpE x.1.2.2.2.1, wR (Ex.dues x.2 x.1.2.2.2.2)]
  out x θ R := ∀ n' L' E', HW n' x.1.2.1 L' E' (rest x.2 x.1.2.2.2.2) → R (.sb true) [some (hpC (θ 1) (θ 2) n'), some (tmR x.1.2.1 L'), some (mpE E'), some (wR (Ex.dues x.2 x.1.2.2.2.2))]
theorem SLDues_nt : SLDues.Nt := ⟨fun _ _ => rfl, by unfold SLDues wR; (intros; simp only [ren_all] at *; try assumption), by unfold SLDues wR; (intros; simp only [ren_all] at *; try assumption)⟩
theorem SLDues_ok : SLDues.Ok Try.prog 15 := by
  refine LSpec.of_body noGo mixed conLw Try.func15 rfl (by kernel_rfl) fun ⟨⟨n, N, L, E, w⟩, now⟩ R ⟨h, hn⟩ hR => ?_
  have h : HW n N L E w := h
  have hn : n ≤ 10000 := hn
  have hQ : ∀ n' L' E', HW n' N L' E' (rest now w) → R (.sb true) [some (hpC 1 2 n'), some (tmR N L'), some (mpE E'), some (wR (Ex.dues now w))] := hR
  have hl : (Ex.dues now w).length ≤ 10000 := by
    have := tw_len (p := fun c => Ex.due now c.2) (w := w)
    have := h.len
    show (w.takeWhile fun c => Ex.due now c.2).length ≤ 10000
    omega
  (conv => whnf)
  refine ⟨((n, N, L, E, w), now), [0, 1, 2], ⟨h, hn⟩, rfl, by (repeat' (first | exact True.intro | rfl | assumption | exact entI_keep _ _ | (refine And.intro ?_ ?_) | (intro _ _; rfl) | ((conv => whnf); (first | exact True.intro | (refine And.intro ?_ ?_))))), by (repeat' (first | exact True.intro | rfl | assumption | exact entI_keep _ _ | (refine And.intro ?_ ?_) | (intro _ _; rfl) | ((conv => whnf); (first | exact True.intro | (refine And.intro ?_ ?_))))), fun n' L' E' h' => ?_⟩
  have hRR := hQ _ _ _ h'
  (conv => whnf)
  refine ⟨Ex.dues now w, [4, 3], hl, rfl, by (repeat' (first | exact True.intro | rfl | assumption | exact entI_keep _ _ | (refine And.intro ?_ ?_) | (intro _ _; rfl) | ((conv => whnf); (first | exact True.intro | (refine And.intro ?_ ?_))))), by (repeat' (first | exact True.intro | rfl | assumption | exact entI_keep _ _ | (refine And.intro ?_ ?_) | (intro _ _; rfl) | ((conv => whnf); (first | exact True.intro | (refine And.intro ?_ ?_))))), ?_⟩
  (conv => whnf)
  refine ⟨fun _ => ?_, fun hh => Bool.noConfusion (show true = false from hh)⟩
  (conv => whnf)
  refine ⟨[], _, _, hRR, ?_⟩
  (repeat' (first | exact True.intro | rfl | assumption | exact entI_keep _ _ | (refine And.intro ?_ ?_) | (intro _ _; rfl) | ((conv => whnf); (first | exact True.intro | (refine And.intro ?_ ?_)))))
  all_goals (show true = decide ((0 : Int) = 0); simp)
end Go.Proofs.Ytapjncdcjahlkaa
