/- Equal lists of prefixes: Same of the reference, slices.Equal. -/
import Derived.Test.YtagpkejbbmpcgaaTrRefCR
namespace Go.Proofs.Ytagpkejbbmpcgaa
open Go Go.RowKit Sy Ti
set_option maxRecDepth 100000
set_option maxHeartbeats 4000000

theorem bs_ext {x y : Bs} (h : x.data.toList = y.data.toList) : x = y := by_inj h
theorem prEq (a : Bs) (n : Int) (b : Bs) (m : Int) : EqOk Try.prog 32 [.str a, .int .u64 n] [.str b, .int .u64 m] := by
  intro ρ l' m' h1 h2 w
  simp only [czl, cz, Option.some.injEq] at h1 h2
  subst h1 h2
  unfold Op.equal Op.maxDepth Op.equalIn
  simp only [Sem.run_bind, run_underlying Try.underlying32, Result.andThen_ok]
  have hs : Try.prog.stoodInHeld 32 = false := by kernel_rfl
  have e1 : ∀ c, (part 9 #[Value.string a, Value.int .u64 n] 0).run Try.prog c = .ok (.string a) c := fun c => run_part c (.inr ⟨by kernel_rfl, rfl⟩)
  have e2 : ∀ c, (part 9 #[Value.string b, Value.int .u64 m] 0).run Try.prog c = .ok (.string b) c := fun c => run_part c (.inr ⟨by kernel_rfl, rfl⟩)
  have e3 : ∀ c, (part 29 #[Value.string a, Value.int .u64 n] 1).run Try.prog c = .ok (.int .u64 n) c := fun c => run_part c (.inr ⟨by kernel_rfl, rfl⟩)
  have e4 : ∀ c, (part 29 #[Value.string b, Value.int .u64 m] 1).run Try.prog c = .ok (.int .u64 m) c := fun c => run_part c (.inr ⟨by kernel_rfl, rfl⟩)
  simp only [run_program, Result.andThen_ok, hs, Bool.false_eq_true, if_false, ← Array.forIn_toList, List.forIn_cons, List.forIn_nil, Sem.run_bind]
  have e5 : ∀ (x y : Bs) w, (Op.equalIn 9999 9 (.string x) (.string y)).run Try.prog w = .ok (decide (x = y)) w := fun x y w => by
    rw [show decide (x = y) = (x.toList == y.toList) by
      rw [Bool.eq_iff_iff, decide_eq_true_iff, beq_iff_eq, Lib.toList_data, Lib.toList_data]
      exact ⟨fun h => by rw [h], bs_ext⟩]
    exact run_equalIn_string w 9998 9 x y Try.underlying9
  have e6 : ∀ c, (Op.equalIn 9999 29 (.int .u64 n) (.int .u64 m)).run Try.prog c = .ok (n == m) c := fun c => by
    have := run_equalIn_int c 9998 29 .u64 .u64 n m Try.underlying29
    simpa using this
  rw [if_pos (by decide), if_pos (by decide)]
  simp only [Sem.run_bind, e1, e2, e5, Result.andThen_ok, eqL, eq1]
  by_cases h1 : a = b
  · by_cases h2 : n = m
    · subst h1 h2
      simp [Sem.run_bind, e3, e6]
    · subst h1
      simp [h2, Sem.run_bind, e3, e4, e6]
  · by_cases h2 : n = m <;> simp [h1]
theorem prGuard : Try.prog.eqGuardType Try.prog.depth 32 = false := by kernel_rfl
theorem eqL_pr (a b : Pr) : eqL [.str a.1, u64 a.2] [.str b.1, u64 b.2] = decide (a = b) := by
  unfold u64 eqL eqL eqL eq1
  obtain ⟨a1, a2⟩ := a
  obtain ⟨b1, b2⟩ := b
  rw [Bool.eq_iff_iff]
  simp only [Bool.and_eq_true, decide_eq_true_eq, and_true, Prod.mk.injEq]
def SSame : LSpec where
  X := List Pr
  k := 2
  pre x := x.length ≤ 1000000
  args x θ := [.sl (θ 0) 0 2 x.length false, .sl (θ 1) 0 2 x.length false]
  objs x _ := [prR x, prR x]
  out x _ R := R (.sb true) [some (prR x), some (prR x)]
theorem SSame_nt : SSame.Nt := ⟨fun _ _ => rfl, fun _ _ => rfl, fun _ _ _ h => h⟩
theorem SSame_ok : SSame.Ok Try.prog 13 := by
  refine LSpec.of_body noGo mixed conOf_nil Try.func13 rfl (by kernel_rfl) fun (w : List Pr) R hlen hR => ?_
  have hlen : w.length ≤ 1000000 := hlen
  have hR : R (.sb true) [some (prR w), some (prR w)] := hR
  (conv => whnf)
  refine ⟨fun hh => absurd (show (!decide ((w.length : Int) = (w.length : Int))) = true from hh) (by simp), fun _ => ?_⟩
  (conv => whnf)
  refine .inl ⟨Nat, fun i => [(0, .sl 0 0 2 w.length false), (1, .sl 1 0 2 w.length false), (5, i64 i)], fun _ => [some (prR w), some (prR w)], fun i => w.length - i, fun i => i ≤ w.length, 2, ⟨0, [], Nat.zero_le _, ?_⟩, fun _ => rfl, fun i hi => ?_⟩
  · (repeat' (first | exact True.intro | rfl | assumption | exact tn_ok rfl | exact tr_ok rfl | exact fun _ => rfl | (refine And.intro ?_ ?_) | (intro _ _; rfl) | ((conv => whnf); (first | exact True.intro | (refine And.intro ?_ ?_)))))
  have hi : i ≤ w.length := hi
  have ei := zero_add_toNat i
  (conv => whnf)
  constructor
  · intro h
    have h : i < w.length := by have : (i : Int) < (w.length : Int) := of_decide_eq_true h; omega
    have hiN : 0 + ((i : Nat) : Int).toNat < w.length := by rw [ei]; exact h
    have b1 : (0 : Int) ≤ (i : Int) ∧ (i : Int) < (w.length : Int) := ⟨by omega, by omega⟩
    (conv => whnf)
    refine ⟨b1.1, b1.2, ?_⟩
    (conv => whnf)
    refine ⟨hiN, ?_⟩
    (conv => whnf)
    refine ⟨b1.1, b1.2, ?_⟩
    (conv => whnf)
    refine ⟨hiN, ?_⟩
    (conv => whnf)
    refine ⟨prGuard, prEq _ _ _ _, ?_⟩
    (conv => whnf)
    refine ⟨fun hh => absurd (show (!eqL [.str (w.getD (0 + (i : Int).toNat) p00).1, u64 (w.getD (0 + (i : Int).toNat) p00).2] [.str (w.getD (0 + (i : Int).toNat) p00).1, u64 (w.getD (0 + (i : Int).toNat) p00).2]) = true from hh) (by rw [eqL_pr]; simp), fun _ => ?_⟩
    (conv => whnf)
    refine ⟨i + 1, [], by show w.length - (i + 1) < w.length - i; omega, by show i + 1 ≤ w.length; omega, ?_⟩
    (repeat' (first | exact True.intro | rfl | assumption | exact tn_ok rfl | exact tr_ok rfl | exact fun _ => rfl | (refine And.intro ?_ ?_) | (intro _ _; rfl) | ((conv => whnf); (first | exact True.intro | (refine And.intro ?_ ?_)))))
    exact (wrap_inc h (by omega)).symm
  · intro h
    (conv => whnf)
    refine ⟨[], _, _, hR, ?_⟩
    (repeat' (first | exact True.intro | rfl | assumption | exact tn_ok rfl | exact tr_ok rfl | exact fun _ => rfl | (refine And.intro ?_ ?_) | (intro _ _; rfl) | ((conv => whnf); (first | exact True.intro | (refine And.intro ?_ ?_)))))
def SEqual : LSpec where
  X := List Pr × List Pr
  k := 2
  pre x := x.1.length ≤ 1000000 ∧ x.2.length ≤ 1000000
  args x θ := [.sl (θ 0) 0 2 x.1.length false, .sl (θ 1) 0 2 x.2.length false]
  objs x _ := [prR x.1, prR x.2]
  out x _ R := R (.sb (decide (x.1 = x.2))) [some (prR x.1), some (prR x.2)]
theorem SEqual_nt : SEqual.Nt := ⟨fun _ _ => rfl, fun _ _ => rfl, fun _ _ _ h => h⟩
theorem list_ext_getD {a b : List Pr} (hl : a.length = b.length) (h : ∀ j, j < a.length → a.getD j p00 = b.getD j p00) : a = b := by
  refine List.ext_getElem hl fun j h1 h2 => ?_
  have := h j h1
  rwa [List.getD_eq_getElem?_getD, List.getD_eq_getElem?_getD, List.getElem?_eq_getElem h1, List.getElem?_eq_getElem h2] at this
theorem SEqual_ok : SEqual.Ok Try.prog 41 := by
  refine LSpec.of_body noGo mixed conOf_nil Try.func41 rfl (by kernel_rfl) fun ⟨a, b⟩ R ⟨hla, hlb⟩ hR => ?_
  have hla : a.length ≤ 1000000 := hla
  have hlb : b.length ≤ 1000000 := hlb
  have hR : R (.sb (decide (a = b))) [some (prR a), some (prR b)] := hR
  have hno : a ≠ b → R (.sb false) [some (prR a), some (prR b)] := fun h => by rw [decide_eq_false h] at hR; exact hR
  show bodyP _ _ _ _ _ [.sl 0 0 2 a.length false, .sl 1 0 2 b.length false] ⟨2, Tr.ofL 0 [prR a, prR b] .leaf⟩ _
  (conv => whnf)
  constructor
  · intro hh
    have hF := hno fun e => by
      have hh : (!decide ((a.length : Int) = (b.length : Int))) = true := hh
      rw [e] at hh
      simp at hh
    (conv => whnf)
    refine ⟨[], _, _, hF, ?_⟩
    (repeat' (first | exact True.intro | rfl | assumption | exact tn_ok rfl | exact tr_ok rfl | exact fun _ => rfl | (refine And.intro ?_ ?_) | (intro _ _; rfl) | ((conv => whnf); (first | exact True.intro | (refine And.intro ?_ ?_)))))
  intro hh
  have hl : a.length = b.length := by
    have hh : (!decide ((a.length : Int) = (b.length : Int))) = false := hh
    have := of_decide_eq_true (not_f hh)
    omega
  (conv => whnf)
  refine .inl ⟨Nat, fun i => [(0, .sl 0 0 2 a.length false), (1, .sl 1 0 2 b.length false), (12, i64 a.length), (13, i64 i)], fun _ => [some (prR a), some (prR b)], fun i => a.length - i, fun i => i ≤ a.length ∧ ∀ j, j < i → a.getD j p00 = b.getD j p00, 2, ⟨0, [], ⟨Nat.zero_le _, fun j hj => absurd hj (Nat.not_lt_zero j)⟩, ?_⟩, fun _ => rfl, fun i hi0 => ?_⟩
  · (repeat' (first | exact True.intro | rfl | assumption | exact tn_ok rfl | exact tr_ok rfl | exact fun _ => rfl | (refine And.intro ?_ ?_) | (intro _ _; rfl) | ((conv => whnf); (first | exact True.intro | (refine And.intro ?_ ?_)))))
  have hi : i ≤ a.length := hi0.1
  have heq : ∀ j, j < i → a.getD j p00 = b.getD j p00 := hi0.2
  clear hi0
  have ei := zero_add_toNat i
  (conv => whnf)
  constructor
  · intro h
    have h : i < a.length := by have : (i : Int) < (a.length : Int) := of_decide_eq_true h; omega
    (conv => whnf)
    refine ⟨by show (0 : Int) ≤ (i : Int); omega, by show (i : Int) < (a.length : Int); omega, ?_⟩
    (conv => whnf)
    refine ⟨by rw [ei]; exact h, ?_⟩
    rw [ei]
    (conv => whnf)
    refine ⟨by show (0 : Int) ≤ (i : Int); omega, by show (i : Int) < (b.length : Int); omega, ?_⟩
    (conv => whnf)
    refine ⟨by rw [ei]; omega, ?_⟩
    rw [ei]
    (conv => whnf)
    refine ⟨prGuard, prEq _ _ _ _, ?_⟩
    (conv => whnf)
    constructor
    · intro h2
      have hF := hno fun e => by
        have h2 : (!eqL [.str (a.getD i p00).1, u64 (a.getD i p00).2] [.str (b.getD i p00).1, u64 (b.getD i p00).2]) = true := h2
        rw [eqL_pr, e] at h2
        simp at h2
      (conv => whnf)
      refine ⟨[], _, _, hF, ?_⟩
      (repeat' (first | exact True.intro | rfl | assumption | exact tn_ok rfl | exact tr_ok rfl | exact fun _ => rfl | (refine And.intro ?_ ?_) | (intro _ _; rfl) | ((conv => whnf); (first | exact True.intro | (refine And.intro ?_ ?_)))))
    · intro h2
      have h2 : a.getD i p00 = b.getD i p00 := by
        have h2 : (!eqL [.str (a.getD i p00).1, u64 (a.getD i p00).2] [.str (b.getD i p00).1, u64 (b.getD i p00).2]) = false := h2
        rw [eqL_pr] at h2
        exact of_decide_eq_true (not_f h2)
      (conv => whnf)
      refine ⟨i + 1, [], by show a.length - (i + 1) < a.length - i; omega, ⟨by show i + 1 ≤ a.length; omega, fun j hj => ?_⟩, ?_⟩
      · have hj : j < i + 1 := hj
        rcases Nat.lt_or_ge j i with q | q
        · exact heq j q
        · obtain rfl : j = i := by omega
          exact h2
      (repeat' (first | exact True.intro | rfl | assumption | exact tn_ok rfl | exact tr_ok rfl | exact fun _ => rfl | (refine And.intro ?_ ?_) | (intro _ _; rfl) | ((conv => whnf); (first | exact True.intro | (refine And.intro ?_ ?_)))))
      exact (wrap_inc h (by omega)).symm
  · intro h
    have h : i = a.length := by have : ¬ (i : Int) < (a.length : Int) := of_decide_eq_false h; omega
    rw [decide_eq_true (list_ext_getD hl (by rw [← h]; exact heq))] at hR
    (conv => whnf)
    refine ⟨[], _, _, hR, ?_⟩
    (repeat' (first | exact True.intro | rfl | assumption | exact tn_ok rfl | exact tr_ok rfl | exact fun _ => rfl | (refine And.intro ?_ ?_) | (intro _ _; rfl) | ((conv => whnf); (first | exact True.intro | (refine And.intro ?_ ?_)))))
end Go.Proofs.Ytagpkejbbmpcgaa
