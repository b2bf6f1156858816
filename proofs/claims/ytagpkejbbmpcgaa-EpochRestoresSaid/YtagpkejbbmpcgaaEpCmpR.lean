/- What the comparison of Restore computes. -/
import Derived.Test.YtagpkejbbmpcgaaEpExactR
import Derived.Test.YtagpkejbbmpcgaaEpPrgR
namespace Go.Proofs.Ytagpkejbbmpcgaa
open Go Go.RowKit Sy Ti
set_option maxRecDepth 100000

/-- What cmp.Compare returns. -/
def cmpI (a b : Int) : Int := if a < b then -1 else if b < a then 1 else 0
def SCmpT : LSpec where
  X := Int × Int
  k := 0
  pre _ := True
  args x _ := [u64 x.1, u64 x.2]
  objs _ _ := []
  out x _ R := R (i64 (cmpI x.1 x.2)) []
theorem SCmpT_nt : SCmpT.Nt := ⟨fun _ _ => rfl, fun _ _ => rfl, fun _ _ _ h => h⟩
theorem conNaN {md : Bool} : ConOkM md Try.prog (conOf [(59, inl Try.prog (conOf []) Try.f59)]) :=
  conOf_cons (inl_ok noGo mixed conOf_nil Try.func59 (by kernel_rfl)) conOf_nil
theorem SCmpT_ok {md : Bool} : SCmpT.OkM md Try.prog 40 := by
  refine LSpec.of_body noGo mixed conNaN Try.func40 rfl (by kernel_rfl) fun ⟨a, b⟩ R _ hR => ?_
  have hR : R (i64 (cmpI a b)) [] := hR
  unfold cmpI at hR
  (conv => whnf)
  refine ⟨fun hh => absurd (show (!decide (a = a)) = true from hh) (by simp), fun _ => ?_⟩
  (conv => whnf)
  refine ⟨fun hh => absurd (show (!decide (b = b)) = true from hh) (by simp), fun _ => ?_⟩
  (conv => whnf)
  constructor
  · intro h1
    rw [if_pos (of_decide_eq_true h1 : a < b)] at hR
    (conv => whnf)
    refine ⟨[], _, _, hR, ?_⟩
    (repeat' (first | exact True.intro | rfl | assumption | exact tn_ok rfl | exact tr_ok rfl | exact fun _ => rfl | (refine And.intro ?_ ?_) | (intro _ _; rfl) | ((conv => whnf); (first | exact True.intro | (refine And.intro ?_ ?_)))))
  · intro h1
    rw [if_neg (of_decide_eq_false h1 : ¬ a < b)] at hR
    (conv => whnf)
    constructor
    · intro h2
      rw [if_pos (of_decide_eq_true h2 : b < a)] at hR
      (conv => whnf)
      refine ⟨[], _, _, hR, ?_⟩
      (repeat' (first | exact True.intro | rfl | assumption | exact tn_ok rfl | exact tr_ok rfl | exact fun _ => rfl | (refine And.intro ?_ ?_) | (intro _ _; rfl) | ((conv => whnf); (first | exact True.intro | (refine And.intro ?_ ?_)))))
    · intro h2
      rw [if_neg (of_decide_eq_false h2 : ¬ b < a)] at hR
      (conv => whnf)
      refine ⟨[], _, _, hR, ?_⟩
      (repeat' (first | exact True.intro | rfl | assumption | exact tn_ok rfl | exact tr_ok rfl | exact fun _ => rfl | (refine And.intro ?_ ?_) | (intro _ _; rfl) | ((conv => whnf); (first | exact True.intro | (refine And.intro ?_ ?_)))))
def prV (c : Pr) : List V := [.str c.1, u64 c.2]
def cmpC (x y : Pr) : Int := cmpI x.2 y.2
def ltN (x y : Pr) : Prop := x.2 < y.2
instance (x y : Pr) : Decidable (ltN x y) := inferInstanceAs (Decidable (x.2 < y.2))
theorem cmpC_lt {x y : Pr} : cmpC x y < 0 ↔ ltN x y := by
  unfold cmpC cmpI ltN
  split
  · simp; assumption
  · split <;> simp <;> omega
def SCmpP : LSpec where
  X := Pr × Pr
  k := 0
  pre _ := True
  args x _ := [.agg (prV x.1), .agg (prV x.2)]
  objs _ _ := []
  out x _ R := R (i64 (cmpC x.1 x.2)) []
theorem conCmp {md : Bool} : ConOkM md Try.prog (conOf [(40, SCmpT.T)]) := conOf_cons (LSpec.call SCmpT_nt SCmpT_ok) conOf_nil
theorem SCmpP_ok {md : Bool} : SCmpP.OkM md Try.prog 39 := by
  refine LSpec.of_body noGo mixed conCmp Try.func39 rfl (by kernel_rfl) fun ⟨a, b⟩ R _ hR => ?_
  have hR : R (i64 (cmpC a b)) [] := hR
  show bodyP _ _ _ _ _ [.agg (prV a), .agg (prV b)] (locS []) _
  (conv => whnf)
  refine ⟨(a.2, b.2), [], trivial, rfl, by (repeat' (first | exact True.intro | rfl | assumption | exact tn_ok rfl | exact tr_ok rfl | exact fun _ => rfl | (refine And.intro ?_ ?_) | (intro _ _; rfl) | ((conv => whnf); (first | exact True.intro | (refine And.intro ?_ ?_))))), by (repeat' (first | exact True.intro | rfl | assumption | exact tn_ok rfl | exact tr_ok rfl | exact fun _ => rfl | (refine And.intro ?_ ?_) | (intro _ _; rfl) | ((conv => whnf); (first | exact True.intro | (refine And.intro ?_ ?_))))), ?_⟩
  (conv => whnf)
  refine ⟨[], _, _, hR, ?_⟩
  (repeat' (first | exact True.intro | rfl | assumption | exact tn_ok rfl | exact tr_ok rfl | exact fun _ => rfl | (refine And.intro ?_ ?_) | (intro _ _; rfl) | ((conv => whnf); (first | exact True.intro | (refine And.intro ?_ ?_)))))
end Go.Proofs.Ytagpkejbbmpcgaa
