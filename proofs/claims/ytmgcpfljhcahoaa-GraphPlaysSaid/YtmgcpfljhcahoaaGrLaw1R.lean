/- What the law's comparisons compute: Strings, Same, of equal lists. -/
import Derived.Test.YtmgcpfljhcahoaaGrInsR
namespace Go.Proofs.Ytmgcpfljhcahoaa
open Go Go.RowKit Sy Tb Gr
set_option maxRecDepth 100000
set_option maxHeartbeats 2000000

def SStrs : LSpec where
  X := List Bs
  k := 2
  pre x := x.length ≤ 1000000
  args x θ := [.sl (θ 0) 0 1 x.length false, .sl (θ 1) 0 1 x.length false]
  objs x _ := [stR x, stR x]
  out x _ R := R (.sb true) [some (stR x), some (stR x)]
theorem SStrs_nt : SStrs.Nt := ⟨fun _ _ => rfl, fun _ _ => rfl, fun _ _ _ h => h⟩
theorem SStrs_ok : SStrs.Ok Try.prog 25 := by
  refine LSpec.of_body noGo mixed conOf_nil Try.func25 rfl (by kernel_rfl) fun (l : List Bs) R hl hR => ?_
  have hl : l.length ≤ 1000000 := hl
  have hQ : R (.sb true) [some (stR l), some (stR l)] := hR
  (conv => whnf)
  refine ⟨fun hh => absurd (show (!decide ((l.length : Int) = (l.length : Int))) = true from hh) (by simp), fun _ => ?_⟩
  (conv => whnf)
  refine .inl ⟨Nat, fun i => [(0, .sl 0 0 1 l.length false), (1, .sl 1 0 1 l.length false), (5, i64 i)], fun _ => [some (stR l), some (stR l)], fun i => l.length - i, fun i => i ≤ l.length, 2, ⟨0, [], Nat.zero_le _, ?_⟩, fun _ => rfl, fun i hi => ?_⟩
  · (repeat' (first | exact True.intro | rfl | assumption | exact mc_ok rfl | exact mr_ok | exact fun _ => rfl | (refine And.intro ?_ ?_) | (intro _ _; rfl) | ((conv => whnf); (first | exact True.intro | (refine And.intro ?_ ?_)))))
  have hi : i ≤ l.length := hi
  have ei := zero_add_toNat i
  (conv => whnf)
  constructor
  · intro h
    have h : i < l.length := by have : (i : Int) < (l.length : Int) := of_decide_eq_true h; omega
    (conv => whnf)
    refine ⟨by show (0 : Int) ≤ (i : Int); omega, by show (i : Int) < (l.length : Int); omega, ?_⟩
    (conv => whnf)
    refine ⟨by rw [ei]; exact h, ?_⟩
    (conv => whnf)
    refine ⟨by show (0 : Int) ≤ (i : Int); omega, by show (i : Int) < (l.length : Int); omega, ?_⟩
    (conv => whnf)
    refine ⟨by rw [ei]; exact h, ?_⟩
    (conv => whnf)
    (repeat (first | refine And.intro rfl ?_ | fail))
    (conv => whnf)
    refine ⟨fun hh => absurd (show (!decide (l.getD (0 + (i : Int).toNat) eS = l.getD (0 + (i : Int).toNat) eS)) = true from hh) (by simp), fun _ => ?_⟩
    (conv => whnf)
    refine ⟨i + 1, [], by show l.length - (i + 1) < l.length - i; omega, by show i + 1 ≤ l.length; omega, ?_⟩
    (repeat' (first | exact True.intro | rfl | assumption | exact mc_ok rfl | exact mr_ok | exact fun _ => rfl | (refine And.intro ?_ ?_) | (intro _ _; rfl) | ((conv => whnf); (first | exact True.intro | (refine And.intro ?_ ?_)))))
    exact (wrap_inc h (by omega)).symm
  · intro h
    (conv => whnf)
    refine ⟨[], _, _, hQ, ?_⟩
    (repeat' (first | exact True.intro | rfl | assumption | exact mc_ok rfl | exact mr_ok | exact fun _ => rfl | (refine And.intro ?_ ?_) | (intro _ _; rfl) | ((conv => whnf); (first | exact True.intro | (refine And.intro ?_ ?_)))))
theorem edEq (a b c d : Bs) : EqOk Try.prog 50 [.str a, .str b] [.str c, .str d] := by
  intro ρ l' m' h1 h2 w
  simp only [czl, cz, Option.some.injEq] at h1 h2
  subst h1 h2
  unfold Op.equal Op.maxDepth Op.equalIn
  simp only [Sem.run_bind, run_underlying Try.underlying50, Result.andThen_ok]
  have hs : Try.prog.stoodInHeld 50 = false := by kernel_rfl
  have e1 : ∀ w, (part 9 #[Value.string a, Value.string b] 0).run Try.prog w = .ok (.string a) w := fun w => run_part w (.inr ⟨by kernel_rfl, rfl⟩)
  have e2 : ∀ w, (part 9 #[Value.string c, Value.string d] 0).run Try.prog w = .ok (.string c) w := fun w => run_part w (.inr ⟨by kernel_rfl, rfl⟩)
  have e3 : ∀ w, (part 9 #[Value.string a, Value.string b] 1).run Try.prog w = .ok (.string b) w := fun w => run_part w (.inr ⟨by kernel_rfl, rfl⟩)
  have e4 : ∀ w, (part 9 #[Value.string c, Value.string d] 1).run Try.prog w = .ok (.string d) w := fun w => run_part w (.inr ⟨by kernel_rfl, rfl⟩)
  simp only [run_program, Result.andThen_ok, hs, Bool.false_eq_true, if_false, ← Array.forIn_toList, List.forIn_cons, List.forIn_nil, Sem.run_bind]
  have e5 : ∀ (x y : Bs) w, (Op.equalIn 9999 9 (.string x) (.string y)).run Try.prog w = .ok (decide (x = y)) w := fun x y w => by
    rw [show decide (x = y) = (x.toList == y.toList) by
      rw [Bool.eq_iff_iff, decide_eq_true_iff, beq_iff_eq, Lib.toList_data, Lib.toList_data]
      exact ⟨fun h => by rw [h], bs_ext⟩]
    exact run_equalIn_string w 9998 9 x y Try.underlying9
  rw [if_pos (by decide), if_pos (by decide)]
  simp only [Sem.run_bind, e1, e2, e5, Result.andThen_ok, eqL, eq1]
  by_cases h1 : a = c
  · by_cases h2 : b = d
    · subst h1 h2
      simp [Sem.run_bind, e3, e5]
    · subst h1
      simp [h2, Sem.run_bind, e3, e4, e5]
  · by_cases h2 : b = d <;> simp [h1]
theorem eqL_ed (a b : Ed) : eqL [.str a.1, .str a.2] [.str b.1, .str b.2] = decide (a = b) := by
  obtain ⟨a1, a2⟩ := a
  obtain ⟨b1, b2⟩ := b
  show (decide (a1 = b1) && (decide (a2 = b2) && true)) = _
  rw [Bool.eq_iff_iff]
  simp only [Bool.and_eq_true, decide_eq_true_eq, and_true, Prod.mk.injEq]
end Go.Proofs.Ytmgcpfljhcahoaa
