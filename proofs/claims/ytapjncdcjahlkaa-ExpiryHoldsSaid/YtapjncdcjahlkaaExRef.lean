/- What the reference computes: lists in order. -/
import Derived.Test.YtapjncdcjahlkaaExPrg6
namespace Go.Proofs.Ytapjncdcjahlkaa
open Go Go.RowKit Sy Ex Al
set_option maxRecDepth 100000

theorem tmEq (a : Int) (n : Int) (b : Int) (m : Int) : EqOk Try.prog 34 [.int .i64 a, .int .u64 n] [.int .i64 b, .int .u64 m] := by
  intro ρ l' m' h1 h2 w
  simp only [czl, cz, Option.some.injEq] at h1 h2
  subst h1 h2
  unfold Op.equal Op.maxDepth Op.equalIn
  simp only [Sem.run_bind, run_underlying Try.underlying34, Result.andThen_ok]
  have hs : Try.prog.stoodInHeld 34 = false := by kernel_rfl
  have e1 : ∀ c, (part 3 #[Value.int .i64 a, Value.int .u64 n] 0).run Try.prog c = .ok (.int .i64 a) c := fun c => run_part c (.inr ⟨by kernel_rfl, rfl⟩)
  have e2 : ∀ c, (part 3 #[Value.int .i64 b, Value.int .u64 m] 0).run Try.prog c = .ok (.int .i64 b) c := fun c => run_part c (.inr ⟨by kernel_rfl, rfl⟩)
  have e3 : ∀ c, (part 24 #[Value.int .i64 a, Value.int .u64 n] 1).run Try.prog c = .ok (.int .u64 n) c := fun c => run_part c (.inr ⟨by kernel_rfl, rfl⟩)
  have e4 : ∀ c, (part 24 #[Value.int .i64 b, Value.int .u64 m] 1).run Try.prog c = .ok (.int .u64 m) c := fun c => run_part c (.inr ⟨by kernel_rfl, rfl⟩)
  simp only [run_program, Result.andThen_ok, hs, Bool.false_eq_true, if_false, ← Array.forIn_toList, List.forIn_cons, List.forIn_nil, Sem.run_bind]
  have e5 : ∀ c, (Op.equalIn 9999 3 (.int .i64 a) (.int .i64 b)).run Try.prog c = .ok (a == b) c := fun c => by
    have := run_equalIn_int c 9998 3 .i64 .i64 a b Try.underlying3
    simpa using this
  have e6 : ∀ c, (Op.equalIn 9999 24 (.int .u64 n) (.int .u64 m)).run Try.prog c = .ok (n == m) c := fun c => by
    have := run_equalIn_int c 9998 24 .u64 .u64 n m Try.underlying24
    simpa using this
  rw [if_pos (by decide), if_pos (by decide)]
  simp only [Sem.run_bind, e1, e2, e5, Result.andThen_ok, eqL, eq1]
  by_cases h1 : a = b
  · by_cases h2 : n = m
    · subst h1 h2
      simp [Sem.run_bind, e3, e6]
    · subst h1
      simp [h2, Sem.run_bind, e3, e4, e6]
  · by_cases h2 : n = m <;> simp [h1]
theorem tmGuard : Try.prog.eqGuardType Try.prog.depth 34 = false := by kernel_rfl
theorem eqL_tm (a b : Cell) : eqL (tmL a) (tmL b) = decide (a = b) := by
  unfold tmL i64 u64 eqL eqL eqL eq1
  obtain ⟨a1, a2⟩ := a
  obtain ⟨b1, b2⟩ := b
  rw [Bool.eq_iff_iff]
  simp only [Bool.and_eq_true, decide_eq_true_eq, and_true, Prod.mk.injEq]

def SRBefore : LSpec where
  X := Cell × Cell
  k := 0
  pre _ := True
  args x _ := [tmV x.1, tmV x.2]
  objs _ _ := []
  out x _ R := R (.sb (decide (lt x.1 x.2))) []
theorem SRBefore_nt : SRBefore.Nt := ⟨fun _ _ => rfl, fun _ _ => rfl, fun _ _ _ h => h⟩
theorem SRBefore_ok : SRBefore.Ok Try.prog 28 := by
  refine LSpec.of_body noGo mixed conOf_nil Try.func28 rfl (by kernel_rfl) fun ⟨a, b⟩ R _ hR => ?_
  have hR : R (.sb (decide (lt a b))) [] := hR
  (conv => whnf)
  constructor
  · intro h
    have h : a.2 = b.2 := of_decide_eq_true h
    (conv => whnf)
    refine ⟨[], _, _, hR, ?_⟩
    (repeat' (first | exact True.intro | rfl | assumption | exact entI_keep _ _ | (refine And.intro ?_ ?_) | (intro _ _; rfl) | ((conv => whnf); (first | exact True.intro | (refine And.intro ?_ ?_)))))
    show decide (lt a b) = decide (a.1 < b.1)
    rw [decide_eq_decide]
    unfold lt; omega
  · intro h
    have h : ¬ a.2 = b.2 := of_decide_eq_false h
    (conv => whnf)
    refine ⟨[], _, _, hR, ?_⟩
    (repeat' (first | exact True.intro | rfl | assumption | exact entI_keep _ _ | (refine And.intro ?_ ?_) | (intro _ _; rfl) | ((conv => whnf); (first | exact True.intro | (refine And.intro ?_ ?_)))))
    show decide (lt a b) = decide (a.2 < b.2)
    rw [decide_eq_decide]
    unfold lt; omega
/-- Where a slot is. -/
def posW (s : Int) (w : List Cell) : Nat := w.findIdx fun c => decide (c.1 = s)
theorem posW_le {s : Int} {w : List Cell} : posW s w ≤ w.length := List.findIdx_le_length
theorem posW_no {s : Int} {w : List Cell} {j : Nat} (h : j < posW s w) : (w.getD j c0).1 ≠ s := by
  have hl : j < w.length := Nat.lt_of_lt_of_le h posW_le
  have := List.not_of_lt_findIdx h
  rw [List.getD_eq_getElem?_getD, List.getElem?_eq_getElem hl]
  simpa using this
theorem posW_at {s : Int} {w : List Cell} (h : posW s w < w.length) : (w.getD (posW s w) c0).1 = s := by
  have : decide (w[posW s w].1 = s) = true := List.findIdx_getElem (w := h)
  rw [List.getD_eq_getElem?_getD, List.getElem?_eq_getElem h]
  exact of_decide_eq_true this
theorem posW_none {s : Int} {w : List Cell} : findW s w = none ↔ posW s w = w.length := by
  rw [findW_none]
  unfold posW
  rw [List.findIdx_eq_length]
  simp
def atI (s : Int) (w : List Cell) : Int := if posW s w < w.length then (posW s w : Int) else -1
def SRAt : LSpec where
  X := List Cell × Int
  k := 1
  pre x := x.1.length ≤ 10000
  args x θ := [.sl (θ 0) 0 2 x.1.length false, i64 x.2]
  objs x _ := [wR x.1]
  out x _ R := R (i64 (atI x.2 x.1)) [some (wR x.1)]
theorem SRAt_nt : SRAt.Nt := ⟨fun _ _ => rfl, fun _ _ => rfl, fun _ _ _ h => h⟩
theorem SRAt_ok : SRAt.Ok Try.prog 27 := by
  refine LSpec.of_body noGo mixed conOf_nil Try.func27 rfl (by kernel_rfl) fun ⟨w, s⟩ R hlen hR => ?_
  have hlen : w.length ≤ 10000 := hlen
  have hR : R (i64 (atI s w)) [some (wR w)] := hR
  have hpl := posW_le (s := s) (w := w)
  (conv => whnf)
  refine .inl ⟨Nat, fun i => [(0, .sl 0 0 2 w.length false), (1, i64 s), (5, i64 i)], fun _ => [some (wR w)], fun i => w.length - i, fun i => i ≤ posW s w, 1, ⟨0, [], Nat.zero_le _, ?_⟩, fun _ => rfl, fun i hi => ?_⟩
  · (repeat' (first | exact True.intro | rfl | assumption | exact entI_keep _ _ | (refine And.intro ?_ ?_) | (intro _ _; rfl) | ((conv => whnf); (first | exact True.intro | (refine And.intro ?_ ?_)))))
  have hi : i ≤ posW s w := hi
  have ei := zero_add_toNat i
  (conv => whnf)
  constructor
  · intro h
    have h : i < w.length := by have : (i : Int) < (w.length : Int) := of_decide_eq_true h; omega
    have hiN : 0 + ((i : Nat) : Int).toNat < w.length := by rw [ei]; exact h
    (conv => whnf)
    refine ⟨by show (0 : Int) ≤ (i : Int); omega, by show (i : Int) < (w.length : Int); omega, ?_⟩
    (conv => whnf)
    refine ⟨hiN, ?_⟩
    (conv => whnf)
    constructor
    · intro h2
      have h2 : (w.getD (0 + (i : Int).toNat) c0).1 = s := of_decide_eq_true h2
      rw [ei] at h2
      have e : i = posW s w := by
        rcases Nat.lt_or_ge i (posW s w) with g | g
        · exact absurd h2 (posW_no g)
        · omega
      have e2 : atI s w = (i : Int) := by unfold atI; rw [← e, if_pos h]
      rw [e2] at hR
      (conv => whnf)
      refine ⟨[], _, _, hR, ?_⟩
      (repeat' (first | exact True.intro | rfl | assumption | exact entI_keep _ _ | (refine And.intro ?_ ?_) | (intro _ _; rfl) | ((conv => whnf); (first | exact True.intro | (refine And.intro ?_ ?_)))))
    · intro h2
      have h2 : ¬ (w.getD (0 + (i : Int).toNat) c0).1 = s := of_decide_eq_false h2
      rw [ei] at h2
      have e : i < posW s w := by
        rcases Nat.lt_or_ge i (posW s w) with g | g
        · exact g
        · have e : i = posW s w := by omega
          rw [e] at h h2
          exact absurd (posW_at h) h2
      (conv => whnf)
      refine ⟨i + 1, [], by show w.length - (i + 1) < w.length - i; omega, by show i + 1 ≤ posW s w; omega, ?_⟩
      (repeat' (first | exact True.intro | rfl | assumption | exact entI_keep _ _ | (refine And.intro ?_ ?_) | (intro _ _; rfl) | ((conv => whnf); (first | exact True.intro | (refine And.intro ?_ ?_)))))
      exact (wrap_inc h (by omega)).symm
  · intro h
    have h : ¬ i < w.length := by have : ¬ (i : Int) < (w.length : Int) := of_decide_eq_false h; omega
    have e2 : atI s w = -1 := by unfold atI; rw [if_neg (by omega)]
    rw [e2] at hR
    (conv => whnf)
    refine ⟨[], _, _, hR, ?_⟩
    (repeat' (first | exact True.intro | rfl | assumption | exact entI_keep _ _ | (refine And.intro ?_ ?_) | (intro _ _; rfl) | ((conv => whnf); (first | exact True.intro | (refine And.intro ?_ ?_)))))
/-- Lists that are equal. -/
def SSame : LSpec where
  X := List Cell
  k := 2
  pre x := x.length ≤ 10000
  args x θ := [.sl (θ 0) 0 2 x.length false, .sl (θ 1) 0 2 x.length false]
  objs x _ := [wR x, wR x]
  out x _ R := R (.sb true) [some (wR x), some (wR x)]
theorem SSame_nt : SSame.Nt := ⟨fun _ _ => rfl, fun _ _ => rfl, fun _ _ _ h => h⟩
theorem SSame_ok : SSame.Ok Try.prog 16 := by
  refine LSpec.of_body noGo mixed conOf_nil Try.func16 rfl (by kernel_rfl) fun (w : List Cell) R hlen hR => ?_
  have hlen : w.length ≤ 10000 := hlen
  have hR : R (.sb true) [some (wR w), some (wR w)] := hR
  (conv => whnf)
  refine ⟨fun hh => absurd (show (!decide ((w.length : Int) = (w.length : Int))) = true from hh) (by simp), fun _ => ?_⟩
  (conv => whnf)
  refine .inl ⟨Nat, fun i => [(0, .sl 0 0 2 w.length false), (1, .sl 1 0 2 w.length false), (5, i64 i)], fun _ => [some (wR w), some (wR w)], fun i => w.length - i, fun i => i ≤ w.length, 2, ⟨0, [], Nat.zero_le _, ?_⟩, fun _ => rfl, fun i hi => ?_⟩
  · (repeat' (first | exact True.intro | rfl | assumption | exact entI_keep _ _ | (refine And.intro ?_ ?_) | (intro _ _; rfl) | ((conv => whnf); (first | exact True.intro | (refine And.intro ?_ ?_)))))
  have hi : i ≤ w.length := hi
  have ei := zero_add_toNat i
  (conv => whnf)
  constructor
  · intro h
    have h : i < w.length := by have : (i : Int) < (w.length : Int) := of_decide_eq_true h; omega
    have hiN : 0 + ((i : Nat) : Int).toNat < w.length := by rw [ei]; exact h
    have b1 : (0 : Int) ≤ (i : Int) ∧ (i : Int) < (w.length : Int) := ⟨by omega, by omega⟩
    (conv => whnf)
    refine ⟨b1.1, b1.2, ?_⟩
    (conv => whnf)
    refine ⟨hiN, ?_⟩
    (conv => whnf)
    refine ⟨b1.1, b1.2, ?_⟩
    (conv => whnf)
    refine ⟨hiN, ?_⟩
    (conv => whnf)
    refine ⟨tmGuard, tmEq _ _ _ _, ?_⟩
    (conv => whnf)
    refine ⟨fun hh => absurd (show (!eqL (tmL (w.getD (0 + (i : Int).toNat) c0)) (tmL (w.getD (0 + (i : Int).toNat) c0))) = true from hh) (by rw [eqL_tm]; simp), fun _ => ?_⟩
    (conv => whnf)
    refine ⟨i + 1, [], by show w.length - (i + 1) < w.length - i; omega, by show i + 1 ≤ w.length; omega, ?_⟩
    (repeat' (first | exact True.intro | rfl | assumption | exact entI_keep _ _ | (refine And.intro ?_ ?_) | (intro _ _; rfl) | ((conv => whnf); (first | exact True.intro | (refine And.intro ?_ ?_)))))
    exact (wrap_inc h (by omega)).symm
  · intro h
    (conv => whnf)
    refine ⟨[], _, _, hR, ?_⟩
    (repeat' (first | exact True.intro | rfl | assumption | exact entI_keep _ _ | (refine And.intro ?_ ?_) | (intro _ _; rfl) | ((conv => whnf); (first | exact True.intro | (refine And.intro ?_ ?_)))))
end Go.Proofs.Ytapjncdcjahlkaa
