/- What Len and New compute. -/
import Derived.Test.YtagpkejbbmpcgaaTrMaxR
namespace Go.Proofs.Ytagpkejbbmpcgaa
open Go Go.RowKit Sy Ti
set_option maxRecDepth 100000
set_option maxHeartbeats 4000000

def nd0 : Nd := ⟨eS, eS, 0, [], none, 0⟩
def newT (y : Nat) : Tt := setM (fun _ => none) y nd0
def noR : RowsN := fun _ => none
theorem newT_at {y b : Nat} {d : Nd} (h : newT y b = some d) : b = y ∧ d = nd0 := by
  unfold newT at h
  by_cases q : b = y
  · subst q; rw [setM_same] at h; cases h; exact ⟨rfl, rfl⟩
  · rw [setM_ne q] at h; cases h
theorem newT_is (y : Nat) : newT y y = some nd0 := setM_same
theorem newT_ts (y : Nat) : TS (newT y) noR y [y] ∧ Cmp (newT y) y y ∧ ∀ q v, v ≠ 0 → ¬ val (newT y) q v := by
  have hk : ∀ {k : Nat} {d : Nd}, d = nd0 → k ∈ d.kids → False := fun e h => by subst e; exact absurd h List.not_mem_nil
  refine ⟨⟨⟨List.pairwise_singleton .., fun b => ⟨fun h => ⟨nd0, by rw [List.mem_singleton.1 h]; exact newT_is y⟩, fun ⟨d, hd⟩ => List.mem_singleton.2 (newT_at hd).1⟩, ⟨nd0, newT_is y, rfl, rfl⟩, fun b d k hb h => (hk (newT_at hb).2 h).elim, fun b d hb => by rw [(newT_at hb).2]; exact .nil, fun b d hb hn => absurd (newT_at hb).1 hn⟩,
    ⟨fun b d hb => by rw [(newT_at hb).2]; exact .inl ⟨rfl, rfl, rfl⟩, fun b b' d d' hb hb' _ _ => (newT_at hb).1.trans (newT_at hb').1.symm⟩, fun b d hb => by rw [(newT_at hb).2]; exact ⟨Int.le_refl 0, show (0 : Int) < 18446744073709551616 by decide⟩, fun b d hb => by rw [(newT_at hb).2]; exact Nat.zero_le _⟩, fun b d hb hn => absurd (newT_at hb).1 hn, fun q v hv ⟨b, d, hb, _, h2⟩ => ?_⟩
  rw [(newT_at hb).2] at h2
  exact hv h2.symm
def SNew : LSpec where
  X := Unit
  k := 0
  pre _ := True
  args _ _ := []
  objs _ _ := []
  out _ θ R := ∀ y, R (.ptr (θ 0) 0) [some (trC (θ 1) y 0), some (tnO (θ 2) (newT y)), some (trO (θ 1) noR)]
theorem SNew_nt : SNew.Nt := ⟨fun _ _ => rfl, fun _ _ => rfl, by unfold SNew; (intros; simp only [ren_all] at *; try assumption)⟩
theorem SNew_ok : SNew.Ok Try.prog 27 := by
  refine LSpec.of_bodyC [1] noGo mixed conOf_nil Try.func27 rfl (by kernel_rfl) fun _ R _ hR => ?_
  have hQ : ∀ y, R (.ptr 0 0) [some (trC 1 y 0), some (tnO 2 (newT y)), some (trO 1 noR)] := hR
  (conv => whnf)
  refine ⟨Unit, fun _ => [], fun _ => [some (tnO 1 fun _ => none), some (trO 0 noR)], fun _ => True, 2, fun _ => rfl, ?_, fun _ _ => ?_⟩
  · (conv => whnf)
    refine ⟨(), [none, none], trivial, ?_⟩
    (repeat' (first | exact True.intro | rfl | assumption | exact tn_ok rfl | exact tr_ok rfl | exact fun _ => rfl | (refine And.intro ?_ ?_) | (intro _ _; rfl) | ((conv => whnf); (first | exact True.intro | (refine And.intro ?_ ?_)))))
  (conv => whnf)
  refine ⟨0, ndL 1 nd0, by exact ⟨rfl, rfl, trivial, trivial⟩, ?_⟩
  (conv => whnf)
  intro y _
  have hF := hQ y
  refine ⟨fun b => (newT y b).map (ndL 1), ⟨?_, fun q (hq : q ≠ y) => by show (newT y q).map (ndL 1) = none; unfold newT; rw [setM_ne hq]; rfl⟩, ?_⟩
  · show (newT y y).map (ndL 1) = _
    rw [newT_is]
    rfl
  (conv => whnf)
  refine ⟨[some 2, some 0, some 1], _, _, hF, ?_⟩
  (repeat' (first | exact True.intro | rfl | assumption | exact tn_ok rfl | exact tr_ok rfl | exact fun _ => rfl | (refine And.intro ?_ ?_) | (intro _ _; rfl) | ((conv => whnf); (first | exact True.intro | (refine And.intro ?_ ?_)))))
end Go.Proofs.Ytagpkejbbmpcgaa
