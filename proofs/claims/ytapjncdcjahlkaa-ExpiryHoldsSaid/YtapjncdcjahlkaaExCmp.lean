/- What compare computes. -/
import Derived.Test.YtapjncdcjahlkaaSyExact
import Derived.Test.YtapjncdcjahlkaaExMath
namespace Go.Proofs.Ytapjncdcjahlkaa
open Go Go.RowKit Sy Ex
set_option maxRecDepth 100000

def i64 (n : Int) : V := .int .i64 n
def u64 (n : Int) : V := .int .u64 n
/-- What cmp.Compare returns. -/
def cmpI (a b : Int) : Int := if a < b then -1 else if b < a then 1 else 0
def SCmpT : LSpec where
  X := Int × Int
  k := 0
  pre _ := True
  args x _ := [u64 x.1, u64 x.2]
  objs _ _ := []
  out x _ R := R (i64 (cmpI x.1 x.2)) []
theorem SCmpT_nt : SCmpT.Nt := ⟨fun _ _ => rfl, fun _ _ => rfl, fun _ _ _ h => h⟩
def SCmpI : LSpec where
  X := Int × Int
  k := 0
  pre _ := True
  args x _ := [i64 x.1, i64 x.2]
  objs _ _ := []
  out x _ R := R (i64 (cmpI x.1 x.2)) []
theorem SCmpI_nt : SCmpI.Nt := ⟨fun _ _ => rfl, fun _ _ => rfl, fun _ _ _ h => h⟩
theorem conNaN {md : Bool} : ConOkM md Try.prog (conOf [(59, inl Try.prog (conOf []) Try.f59), (60, inl Try.prog (conOf []) Try.f60)]) :=
  conOf_cons (inl_ok noGo mixed conOf_nil Try.func59 (by kernel_rfl)) (conOf_cons (inl_ok noGo mixed conOf_nil Try.func60 (by kernel_rfl)) conOf_nil)
theorem SCmpT_ok {md : Bool} : SCmpT.OkM md Try.prog 53 := by
  refine LSpec.of_body noGo mixed conNaN Try.func53 rfl (by kernel_rfl) fun ⟨a, b⟩ R _ hR => ?_
  have hR : R (i64 (cmpI a b)) [] := hR
  unfold cmpI at hR
  (conv => whnf)
  refine ⟨fun hh => absurd (show (!decide (a = a)) = true from hh) (by simp), fun _ => ?_⟩
  (conv => whnf)
  refine ⟨fun hh => absurd (show (!decide (b = b)) = true from hh) (by simp), fun _ => ?_⟩
  (conv => whnf)
  constructor
  · intro h1
    rw [if_pos (of_decide_eq_true h1 : a < b)] at hR
    (conv => whnf)
    refine ⟨[], _, _, hR, ?_⟩
    (repeat' (first | exact True.intro | rfl | assumption | (refine And.intro ?_ ?_) | (intro _ _; rfl) | ((conv => whnf); (first | exact True.intro | (refine And.intro ?_ ?_)))))
  · intro h1
    rw [if_neg (of_decide_eq_false h1 : ¬ a < b)] at hR
    (conv => whnf)
    constructor
    · intro h2
      rw [if_pos (of_decide_eq_true h2 : b < a)] at hR
      (conv => whnf)
      refine ⟨[], _, _, hR, ?_⟩
      (repeat' (first | exact True.intro | rfl | assumption | (refine And.intro ?_ ?_) | (intro _ _; rfl) | ((conv => whnf); (first | exact True.intro | (refine And.intro ?_ ?_)))))
    · intro h2
      rw [if_neg (of_decide_eq_false h2 : ¬ b < a)] at hR
      (conv => whnf)
      refine ⟨[], _, _, hR, ?_⟩
      (repeat' (first | exact True.intro | rfl | assumption | (refine And.intro ?_ ?_) | (intro _ _; rfl) | ((conv => whnf); (first | exact True.intro | (refine And.intro ?_ ?_)))))
theorem SCmpI_ok {md : Bool} : SCmpI.OkM md Try.prog 54 := by
  refine LSpec.of_body noGo mixed conNaN Try.func54 rfl (by kernel_rfl) fun ⟨a, b⟩ R _ hR => ?_
  have hR : R (i64 (cmpI a b)) [] := hR
  unfold cmpI at hR
  (conv => whnf)
  refine ⟨fun hh => absurd (show (!decide (a = a)) = true from hh) (by simp), fun _ => ?_⟩
  (conv => whnf)
  refine ⟨fun hh => absurd (show (!decide (b = b)) = true from hh) (by simp), fun _ => ?_⟩
  (conv => whnf)
  constructor
  · intro h1
    rw [if_pos (of_decide_eq_true h1 : a < b)] at hR
    (conv => whnf)
    refine ⟨[], _, _, hR, ?_⟩
    (repeat' (first | exact True.intro | rfl | assumption | (refine And.intro ?_ ?_) | (intro _ _; rfl) | ((conv => whnf); (first | exact True.intro | (refine And.intro ?_ ?_)))))
  · intro h1
    rw [if_neg (of_decide_eq_false h1 : ¬ a < b)] at hR
    (conv => whnf)
    constructor
    · intro h2
      rw [if_pos (of_decide_eq_true h2 : b < a)] at hR
      (conv => whnf)
      refine ⟨[], _, _, hR, ?_⟩
      (repeat' (first | exact True.intro | rfl | assumption | (refine And.intro ?_ ?_) | (intro _ _; rfl) | ((conv => whnf); (first | exact True.intro | (refine And.intro ?_ ?_)))))
    · intro h2
      rw [if_neg (of_decide_eq_false h2 : ¬ b < a)] at hR
      (conv => whnf)
      refine ⟨[], _, _, hR, ?_⟩
      (repeat' (first | exact True.intro | rfl | assumption | (refine And.intro ?_ ?_) | (intro _ _; rfl) | ((conv => whnf); (first | exact True.intro | (refine And.intro ?_ ?_)))))

def tmL (c : Cell) : List V := [i64 c.1, u64 c.2]
def tmV (c : Cell) : V := .agg (tmL c)
def cmpC (a b : Cell) : Int := if cmpI a.2 b.2 ≠ 0 then cmpI a.2 b.2 else cmpI a.1 b.1
theorem conCmp {md : Bool} : ConOkM md Try.prog (conOf [(53, SCmpT.T), (54, SCmpI.T), (52, inl Try.prog (conOf []) Try.f52)]) :=
  conOf_cons (LSpec.call SCmpT_nt SCmpT_ok) (conOf_cons (LSpec.call SCmpI_nt SCmpI_ok) (conOf_cons (inl_ok noGo mixed conOf_nil Try.func52 (by kernel_rfl)) conOf_nil))
def SCmp : LSpec where
  X := Cell × Cell
  k := 0
  pre _ := True
  args x _ := [tmV x.1, tmV x.2]
  objs _ _ := []
  out x _ R := R (i64 (cmpC x.1 x.2)) []
theorem SCmp_nt : SCmp.Nt := ⟨fun _ _ => rfl, fun _ _ => rfl, fun _ _ _ h => h⟩
theorem SCmp_ok {md : Bool} : SCmp.OkM md Try.prog 36 := by
  refine LSpec.of_body noGo mixed conCmp Try.func36 rfl (by kernel_rfl) fun ⟨a, b⟩ R _ hR => ?_
  have hR : R (i64 (cmpC a b)) [] := hR
  (conv => whnf)
  refine ⟨(a.2, b.2), [], trivial, rfl, by (repeat' (first | exact True.intro | rfl | assumption | (refine And.intro ?_ ?_) | (intro _ _; rfl) | ((conv => whnf); (first | exact True.intro | (refine And.intro ?_ ?_))))), by (repeat' (first | exact True.intro | rfl | assumption | (refine And.intro ?_ ?_) | (intro _ _; rfl) | ((conv => whnf); (first | exact True.intro | (refine And.intro ?_ ?_))))), ?_⟩
  (conv => whnf)
  (repeat (first | refine And.intro rfl ?_ | fail))
  (conv => whnf)
  refine ⟨(a.1, b.1), [], trivial, rfl, by (repeat' (first | exact True.intro | rfl | assumption | (refine And.intro ?_ ?_) | (intro _ _; rfl) | ((conv => whnf); (first | exact True.intro | (refine And.intro ?_ ?_))))), by (repeat' (first | exact True.intro | rfl | assumption | (refine And.intro ?_ ?_) | (intro _ _; rfl) | ((conv => whnf); (first | exact True.intro | (refine And.intro ?_ ?_))))), ?_⟩
  (conv => whnf)
  (repeat (first | refine And.intro rfl ?_ | fail))
  (conv => whnf)
  refine .inr ?_
  (conv => whnf)
  refine ⟨fun _ => ?_, fun hh => absurd (show decide ((0 : Int) < 2) = false from hh) (by decide)⟩
  (conv => whnf)
  refine ⟨by decide, by decide, ?_⟩
  (conv => whnf)
  refine ⟨by decide, ?_⟩
  (conv => whnf)
  constructor
  · intro h
    have h : cmpI a.2 b.2 ≠ 0 := fun e => by
      have h : (!decide (cmpI a.2 b.2 = 0)) = true := h
      rw [e] at h
      exact absurd h (by decide)
    have e : cmpC a b = cmpI a.2 b.2 := if_pos h
    rw [e] at hR
    (conv => whnf)
    refine ⟨[], _, _, hR, ?_⟩
    (repeat' (first | exact True.intro | rfl | assumption | (refine And.intro ?_ ?_) | (intro _ _; rfl) | ((conv => whnf); (first | exact True.intro | (refine And.intro ?_ ?_)))))
  · intro h
    have h : ¬ cmpI a.2 b.2 ≠ 0 := fun e => by
      have h : (!decide (cmpI a.2 b.2 = 0)) = false := h
      rw [decide_eq_false e] at h
      exact absurd h (by decide)
    have e : cmpC a b = cmpI a.1 b.1 := if_neg h
    rw [e] at hR
    (conv => whnf)
    refine .inr ?_
    (conv => whnf)
    refine ⟨fun _ => ?_, fun hh => absurd hh (by decide)⟩
    (conv => whnf)
    refine ⟨by decide, by decide, ?_⟩
    (conv => whnf)
    refine ⟨by decide, ?_⟩
    (conv => whnf)
    constructor
    · intro h
      (conv => whnf)
      refine ⟨[], _, _, hR, ?_⟩
      (repeat' (first | exact True.intro | rfl | assumption | (refine And.intro ?_ ?_) | (intro _ _; rfl) | ((conv => whnf); (first | exact True.intro | (refine And.intro ?_ ?_)))))
    · intro h
      have h : cmpI a.1 b.1 = 0 := Decidable.byContradiction fun e => by
        have h : (!decide (cmpI a.1 b.1 = 0)) = false := h
        rw [decide_eq_false e] at h
        exact absurd h (by decide)
      rw [h] at hR
      (conv => whnf)
      refine .inr ?_
      (conv => whnf)
      refine ⟨fun hh => absurd hh (by decide), fun _ => ?_⟩
      (conv => whnf)
      refine ⟨[], _, _, hR, ?_⟩
      (repeat' (first | exact True.intro | rfl | assumption | (refine And.intro ?_ ?_) | (intro _ _; rfl) | ((conv => whnf); (first | exact True.intro | (refine And.intro ?_ ?_)))))
theorem cmpI_lt {a b : Int} : cmpI a b < 0 ↔ a < b := by
  unfold cmpI
  split
  · simp; omega
  · split <;> simp <;> omega
theorem cmpI_eq {a b : Int} : cmpI a b = 0 ↔ a = b := by
  unfold cmpI
  split
  · simp; omega
  · split <;> simp <;> omega
theorem cmpC_lt {a b : Cell} : cmpC a b < 0 ↔ lt a b := by
  unfold cmpC lt
  by_cases h : cmpI a.2 b.2 = 0
  · rw [if_neg (by simpa using h), cmpI_lt]
    have := cmpI_eq.1 h
    omega
  · rw [if_pos h, cmpI_lt]
    have : a.2 ≠ b.2 := fun e => h (cmpI_eq.2 e)
    omega
end Go.Proofs.Ytapjncdcjahlkaa
