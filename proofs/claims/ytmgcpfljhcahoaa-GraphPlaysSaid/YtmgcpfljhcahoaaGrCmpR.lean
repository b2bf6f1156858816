/- What the order of edges computes. -/
import Derived.Test.YtmgcpfljhcahoaaGrExactR
import Derived.Test.YtmgcpfljhcahoaaGrInsR
namespace Go.Proofs.Ytmgcpfljhcahoaa
open Go Go.RowKit Sy Tb Gr
set_option maxRecDepth 100000

/-- What cmp.Compare returns. -/
def cmpS (a b : Bs) : Int := if strLt a b = true then -1 else if strLt b a = true then 1 else 0
def SCmpS : LSpec where
  X := Bs × Bs
  k := 0
  pre _ := True
  args x _ := [.str x.1, .str x.2]
  objs _ _ := []
  out x _ R := R (i64 (cmpS x.1 x.2)) []
theorem SCmpS_nt : SCmpS.Nt := ⟨fun _ _ => rfl, fun _ _ => rfl, fun _ _ _ h => h⟩
theorem conNaS {md : Bool} : ConOkM md Try.prog (conOf [(63, inl Try.prog (conOf []) Try.f63)]) :=
  conOf_cons (inl_ok noGo mixed conOf_nil Try.func63 (by kernel_rfl)) conOf_nil
theorem SCmpS_ok {md : Bool} : SCmpS.OkM md Try.prog 50 := by
  refine LSpec.of_body noGo mixed conNaS Try.func50 rfl (by kernel_rfl) fun ⟨a, b⟩ R _ hR => ?_
  have hR : R (i64 (cmpS a b)) [] := hR
  unfold cmpS at hR
  (conv => whnf)
  refine ⟨fun hh => absurd (show (!decide (a = a)) = true from hh) (by simp), fun _ => ?_⟩
  (conv => whnf)
  refine ⟨fun hh => absurd (show (!decide (b = b)) = true from hh) (by simp), fun _ => ?_⟩
  (conv => whnf)
  constructor
  · intro h1
    have h1 : strLt a b = true := h1
    rw [if_pos h1] at hR
    (conv => whnf)
    refine ⟨[], _, _, hR, ?_⟩
    (repeat' (first | exact True.intro | rfl | assumption | exact mc_ok rfl | exact mr_ok | exact fun _ => rfl | (refine And.intro ?_ ?_) | (intro _ _; rfl) | ((conv => whnf); (first | exact True.intro | (refine And.intro ?_ ?_)))))
  · intro h1
    have h1 : ¬ strLt a b = true := fun q => by rw [show strLt a b = false from h1] at q; cases q
    rw [if_neg h1] at hR
    (conv => whnf)
    constructor
    · intro h2
      have h2 : strLt b a = true := h2
      rw [if_pos h2] at hR
      (conv => whnf)
      refine ⟨[], _, _, hR, ?_⟩
      (repeat' (first | exact True.intro | rfl | assumption | exact mc_ok rfl | exact mr_ok | exact fun _ => rfl | (refine And.intro ?_ ?_) | (intro _ _; rfl) | ((conv => whnf); (first | exact True.intro | (refine And.intro ?_ ?_)))))
    · intro h2
      have h2 : ¬ strLt b a = true := fun q => by rw [show strLt b a = false from h2] at q; cases q
      rw [if_neg h2] at hR
      (conv => whnf)
      refine ⟨[], _, _, hR, ?_⟩
      (repeat' (first | exact True.intro | rfl | assumption | exact mc_ok rfl | exact mr_ok | exact fun _ => rfl | (refine And.intro ?_ ?_) | (intro _ _; rfl) | ((conv => whnf); (first | exact True.intro | (refine And.intro ?_ ?_)))))
theorem cmpS_lt {a b : Bs} : cmpS a b < 0 ↔ strLt a b = true := by
  unfold cmpS
  split
  · rename_i h; simp [h]
  · rename_i h
    split <;> simp [h]
theorem cmpS_eq {a b : Bs} : cmpS a b = 0 ↔ a = b := by
  unfold cmpS
  split
  · rename_i h
    refine ⟨fun q => absurd q (by decide), fun q => ?_⟩
    rw [q] at h
    exact absurd h (lt_irr b)
  · rename_i h
    split
    · rename_i h2
      refine ⟨fun q => absurd q (by decide), fun q => ?_⟩
      rw [q] at h2
      exact absurd h2 (lt_irr b)
    · rename_i h2
      exact ⟨fun _ => lt_tri h h2, fun _ => rfl⟩
def edL (c : Ed) : List V := [.str c.1, .str c.2]
def edV (c : Ed) : V := .agg (edL c)
def cmpE (a b : Ed) : Int := if cmpS a.1 b.1 ≠ 0 then cmpS a.1 b.1 else cmpS a.2 b.2
theorem conCmE {md : Bool} : ConOkM md Try.prog (conOf [(50, SCmpS.T), (49, inl Try.prog (conOf []) Try.f49)]) :=
  conOf_cons (LSpec.call SCmpS_nt SCmpS_ok) (conOf_cons (inl_ok noGo mixed conOf_nil Try.func49 (by kernel_rfl)) conOf_nil)
def SCmpE : LSpec where
  X := Ed × Ed
  k := 0
  pre _ := True
  args x _ := [edV x.1, edV x.2]
  objs _ _ := []
  out x _ R := R (i64 (cmpE x.1 x.2)) []
theorem SCmpE_ok {md : Bool} : SCmpE.OkM md Try.prog 48 := by
  refine LSpec.of_body noGo mixed conCmE Try.func48 rfl (by kernel_rfl) fun ⟨a, b⟩ R _ hR => ?_
  have hR : R (i64 (cmpE a b)) [] := hR
  (conv => whnf)
  refine ⟨(a.1, b.1), [], trivial, rfl, by (repeat' (first | exact True.intro | rfl | assumption | exact mc_ok rfl | exact mr_ok | exact fun _ => rfl | (refine And.intro ?_ ?_) | (intro _ _; rfl) | ((conv => whnf); (first | exact True.intro | (refine And.intro ?_ ?_))))), by (repeat' (first | exact True.intro | rfl | assumption | exact mc_ok rfl | exact mr_ok | exact fun _ => rfl | (refine And.intro ?_ ?_) | (intro _ _; rfl) | ((conv => whnf); (first | exact True.intro | (refine And.intro ?_ ?_))))), ?_⟩
  (conv => whnf)
  (repeat (first | refine And.intro rfl ?_ | fail))
  (conv => whnf)
  refine ⟨(a.2, b.2), [], trivial, rfl, by (repeat' (first | exact True.intro | rfl | assumption | exact mc_ok rfl | exact mr_ok | exact fun _ => rfl | (refine And.intro ?_ ?_) | (intro _ _; rfl) | ((conv => whnf); (first | exact True.intro | (refine And.intro ?_ ?_))))), by (repeat' (first | exact True.intro | rfl | assumption | exact mc_ok rfl | exact mr_ok | exact fun _ => rfl | (refine And.intro ?_ ?_) | (intro _ _; rfl) | ((conv => whnf); (first | exact True.intro | (refine And.intro ?_ ?_))))), ?_⟩
  (conv => whnf)
  (repeat (first | refine And.intro rfl ?_ | fail))
  (conv => whnf)
  refine .inr ?_
  (conv => whnf)
  refine ⟨fun _ => ?_, fun hh => absurd (show decide ((0 : Int) < 2) = false from hh) (by decide)⟩
  (conv => whnf)
  refine ⟨by decide, by decide, ?_⟩
  (conv => whnf)
  refine ⟨by decide, ?_⟩
  (conv => whnf)
  constructor
  · intro h
    have h : cmpS a.1 b.1 ≠ 0 := fun e => by
      have h : (!decide (cmpS a.1 b.1 = 0)) = true := h
      rw [e] at h
      exact absurd h (by decide)
    have e : cmpE a b = cmpS a.1 b.1 := if_pos h
    rw [e] at hR
    (conv => whnf)
    refine ⟨[], _, _, hR, ?_⟩
    (repeat' (first | exact True.intro | rfl | assumption | exact mc_ok rfl | exact mr_ok | exact fun _ => rfl | (refine And.intro ?_ ?_) | (intro _ _; rfl) | ((conv => whnf); (first | exact True.intro | (refine And.intro ?_ ?_)))))
  · intro h
    have h : ¬ cmpS a.1 b.1 ≠ 0 := fun e => by
      have h : (!decide (cmpS a.1 b.1 = 0)) = false := h
      rw [decide_eq_false e] at h
      exact absurd h (by decide)
    have e : cmpE a b = cmpS a.2 b.2 := if_neg h
    rw [e] at hR
    (conv => whnf)
    refine .inr ?_
    (conv => whnf)
    refine ⟨fun _ => ?_, fun hh => absurd hh (by decide)⟩
    (conv => whnf)
    refine ⟨by decide, by decide, ?_⟩
    (conv => whnf)
    refine ⟨by decide, ?_⟩
    (conv => whnf)
    constructor
    · intro h
      (conv => whnf)
      refine ⟨[], _, _, hR, ?_⟩
      (repeat' (first | exact True.intro | rfl | assumption | exact mc_ok rfl | exact mr_ok | exact fun _ => rfl | (refine And.intro ?_ ?_) | (intro _ _; rfl) | ((conv => whnf); (first | exact True.intro | (refine And.intro ?_ ?_)))))
    · intro h
      have h : cmpS a.2 b.2 = 0 := Decidable.byContradiction fun e => by
        have h : (!decide (cmpS a.2 b.2 = 0)) = false := h
        rw [decide_eq_false e] at h
        exact absurd h (by decide)
      rw [h] at hR
      (conv => whnf)
      refine .inr ?_
      (conv => whnf)
      refine ⟨fun hh => absurd hh (by decide), fun _ => ?_⟩
      (conv => whnf)
      refine ⟨[], _, _, hR, ?_⟩
      (repeat' (first | exact True.intro | rfl | assumption | exact mc_ok rfl | exact mr_ok | exact fun _ => rfl | (refine And.intro ?_ ?_) | (intro _ _; rfl) | ((conv => whnf); (first | exact True.intro | (refine And.intro ?_ ?_)))))
theorem cmpE_lt {a b : Ed} : cmpE a b < 0 ↔ ltE a b = true := by
  rw [ltE_iff]
  unfold cmpE
  by_cases h : cmpS a.1 b.1 = 0
  · rw [if_neg (by simpa using h), cmpS_lt]
    have e := cmpS_eq.1 h
    rw [e]
    exact ⟨fun q => .inr ⟨rfl, q⟩, fun q => q.elim (fun q => absurd q (lt_irr _)) fun q => q.2⟩
  · rw [if_pos h, cmpS_lt]
    exact ⟨.inl, fun q => q.elim (fun q => q) fun q => absurd (cmpS_eq.2 q.1) h⟩
end Go.Proofs.Ytmgcpfljhcahoaa
