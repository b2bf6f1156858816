/- What (*Heap).Copy computes. -/
import Derived.Test.YtapjncdcjahlkaaExLaw
namespace Go.Proofs.Ytapjncdcjahlkaa
open Go Go.RowKit Sy Ex Al
set_option maxRecDepth 100000

theorem conCp : ConOk Try.prog (conOf [(33, inl Try.prog (conOf []) Try.f33), (40, nilT (inl Try.prog (conOf []) Try.f40)), (41, inl Try.prog (conOf [(55, cloneT)]) Try.f41)]) :=
  conOf_cons (inl_ok noGo mixed conOf_nil Try.func33 (by kernel_rfl)) (conOf_cons (nil_ok (inl_ok noGo mixed conOf_nil Try.func40 (by kernel_rfl))) (conOf_cons (inl_ok noGo mixed (conOf_cons (clone_ok Try.func55 rfl rfl (by kernel_rfl)) conOf_nil) Try.func41 (by kernel_rfl)) conOf_nil))
def SCopy : LSpec where
  X := HX
  k := 3
  pre x := HW x.1 x.2.1 x.2.2.1 x.2.2.2.1 x.2.2.2.2 ∧ x.1 ≤ 10000
  args _ θ := [.ptr (θ 0) 0]
  objs x θ := [hpC (θ 1) (θ 2) x.1, tmR x.2.1 x.2.2.1, mpE x.2.2.2.1]
  out x θ R := R (.ptr (θ 3) 0) [some (hpC (θ 1) (θ 2) x.1), some (tmR x.2.1 x.2.2.1), some (mpE x.2.2.2.1), some (hpC (θ 4) (θ 5) x.1), some (tmR x.1 x.2.2.1), some (mpE x.2.2.2.1)]
theorem SCopy_nt : SCopy.Nt := ⟨fun _ _ => rfl, by unfold SCopy; (intros; simp only [ren_all] at *; try assumption), by unfold SCopy; (intros; simp only [ren_all] at *; try assumption)⟩
theorem SCopy_ok : SCopy.Ok Try.prog 24 := by
  refine LSpec.of_body noGo mixed conCp Try.func24 rfl (by kernel_rfl) fun ⟨n, N, L, E, w⟩ R ⟨h, hn⟩ hR => ?_
  have h : HW n N L E w := h
  have hn : n ≤ 10000 := hn
  have hQ : R (.ptr 3 0) [some (hpC 1 2 n), some (tmR N L), some (mpE E), some (hpC 4 5 n), some (tmR n L), some (mpE E)] := hR
  have hle := h.le
  rcases Nat.eq_zero_or_pos n with h0 | h0
  · subst h0
    (conv => whnf)
    refine .inr ⟨rfl, rfl, rfl, ?_, ?_⟩
    · (conv => whnf)
      refine ⟨rfl, ?_⟩
      (conv => whnf)
      refine ⟨[some 4, none, some 3], _, _, hQ, ?_⟩
      (repeat' (first | exact True.intro | rfl | assumption | exact entI_keep _ _ | (refine And.intro ?_ ?_) | (intro _ _; rfl) | ((conv => whnf); (first | exact True.intro | (refine And.intro ?_ ?_)))))
    · (conv => whnf)
      refine ⟨none, ?_⟩
      (conv => whnf)
      refine ⟨Nat.le_refl _, by show (0 + 0) * _ ≤ 1000000000; simp, ?_⟩
      (conv => whnf)
      refine ⟨rfl, ?_⟩
      (conv => whnf)
      refine ⟨[some 6, some 4, some 5], _, _, hQ, ?_⟩
      (repeat' (first | exact True.intro | rfl | assumption | exact entI_keep _ _ | (refine And.intro ?_ ?_) | (intro _ _; rfl) | ((conv => whnf); (first | exact True.intro | (refine And.intro ?_ ?_)))))
      exact fun j hj => absurd hj (Nat.not_lt_zero j)
  · (conv => whnf)
    refine .inl ?_
    (conv => whnf)
    refine ⟨h0, ?_⟩
    (conv => whnf)
    refine ⟨some (fun q => tmL (L q)), ?_⟩
    (conv => whnf)
    refine ⟨by show 0 + n ≤ N; omega, ?_⟩
    (conv => whnf)
    refine ⟨by decide, by show (0 + n) * (16 + 2) ≤ 1000000000; omega, ?_⟩
    (conv => whnf)
    refine ⟨fun q hq => ?_, ?_⟩
    · show tmL (L q) = tmL (L (0 + (q - 0)))
      rw [Nat.zero_add, Nat.sub_zero]
    (conv => whnf)
    refine ⟨rfl, ?_⟩
    (conv => whnf)
    refine ⟨[some 6, some 4, some 5], _, _, hQ, ?_⟩
    (repeat' (first | exact True.intro | rfl | assumption | exact entI_keep _ _ | (refine And.intro ?_ ?_) | (intro _ _; rfl) | ((conv => whnf); (first | exact True.intro | (refine And.intro ?_ ?_)))))
    · exact (Nat.zero_add n).symm
    · exact (Nat.zero_add n).symm
end Go.Proofs.Ytapjncdcjahlkaa
