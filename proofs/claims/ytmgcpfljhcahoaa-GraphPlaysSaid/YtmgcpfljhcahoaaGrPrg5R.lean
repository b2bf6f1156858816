/- What the functions of package graph compute: Children, Parents. -/
import Derived.Test.YtmgcpfljhcahoaaGrPrg4R
import Derived.Test.YtmgcpfljhcahoaaGrReachR
namespace Go.Proofs.Ytmgcpfljhcahoaa
open Go Sy Tb Gr
set_option maxRecDepth 100000

def SEnds (e : Bool) : LSpec where
  X := GG × Bs
  k := 5
  pre x := GT x.1 x.1.ns.length ∧ 1 ≤ x.1.N ∧ x.2.size ≤ 1000000 ∧ EI x.1.ns
  args x θ := [.ptr (θ 0) 0, .str x.2]
  objs x θ := x.1.objs θ
  out x θ R := R (.sl (θ 5) 0 1 (keysE e x.1.ns x.2).length false) (x.1.all θ ++ [some (stR (keysE e x.1.ns x.2))])
theorem SEnds_nt (e : Bool) : (SEnds e).Nt := ⟨fun _ _ => rfl, by unfold SEnds GG.objs; (intros; simp only [ren_all] at *; try assumption), by unfold SEnds GG.all; (intros; simp only [ren_all] at *; try assumption)⟩
theorem conCh (e : Bool) : ConOk Try.prog (conOf [(52, (SKeys e).T)]) := conOf_cons (LSpec.call (SKeys_nt e) (SKeys_ok e) (fun _ => rfl) (show 5 ≤ 60 by decide)) conOf_nil
theorem SChildren_ok : (SEnds false).Ok Try.prog 27 := by
  refine LSpec.of_body noGo mixed (conCh false) Try.func27 rfl (by kernel_rfl) fun ⟨g, k⟩ R hp hR => ?_
  have hQ : R (.sl 5 0 1 (keysE false g.ns k).length false) (g.all _root_.id ++ [some (stR (keysE false g.ns k))]) := hR
  (conv => whnf)
  refine ⟨(g, k), [0, 1, 2, 3, 4], hp, rfl, by (repeat' (first | exact True.intro | rfl | assumption | exact mc_ok rfl | exact mr_ok | exact fun _ => rfl | (refine And.intro ?_ ?_) | (intro _ _; rfl) | ((conv => whnf); (first | exact True.intro | (refine And.intro ?_ ?_))))), by (repeat' (first | exact True.intro | rfl | assumption | exact mc_ok rfl | exact mr_ok | exact fun _ => rfl | (refine And.intro ?_ ?_) | (intro _ _; rfl) | ((conv => whnf); (first | exact True.intro | (refine And.intro ?_ ?_))))), ?_⟩
  (conv => whnf)
  refine ⟨[some 5], _, _, hQ, ?_⟩
  (repeat' (first | exact True.intro | rfl | assumption | exact mc_ok rfl | exact mr_ok | exact fun _ => rfl | (refine And.intro ?_ ?_) | (intro _ _; rfl) | ((conv => whnf); (first | exact True.intro | (refine And.intro ?_ ?_)))))
theorem SParents_ok : (SEnds true).Ok Try.prog 28 := by
  refine LSpec.of_body noGo mixed (conCh true) Try.func28 rfl (by kernel_rfl) fun ⟨g, k⟩ R hp hR => ?_
  have hQ : R (.sl 5 0 1 (keysE true g.ns k).length false) (g.all _root_.id ++ [some (stR (keysE true g.ns k))]) := hR
  (conv => whnf)
  refine ⟨(g, k), [0, 1, 2, 3, 4], hp, rfl, by (repeat' (first | exact True.intro | rfl | assumption | exact mc_ok rfl | exact mr_ok | exact fun _ => rfl | (refine And.intro ?_ ?_) | (intro _ _; rfl) | ((conv => whnf); (first | exact True.intro | (refine And.intro ?_ ?_))))), by (repeat' (first | exact True.intro | rfl | assumption | exact mc_ok rfl | exact mr_ok | exact fun _ => rfl | (refine And.intro ?_ ?_) | (intro _ _; rfl) | ((conv => whnf); (first | exact True.intro | (refine And.intro ?_ ?_))))), ?_⟩
  (conv => whnf)
  refine ⟨[some 5], _, _, hQ, ?_⟩
  (repeat' (first | exact True.intro | rfl | assumption | exact mc_ok rfl | exact mr_ok | exact fun _ => rfl | (refine And.intro ?_ ?_) | (intro _ _; rfl) | ((conv => whnf); (first | exact True.intro | (refine And.intro ?_ ?_)))))


/-! Valid, check -/
def validK (k : Bs) : Bool := decide (0 < (k.size : Int)) && decide ((k.size : Int) ≤ 250)
theorem validK_iff {k : Bs} : validK k = true ↔ 0 < k.size ∧ k.size ≤ 250 := by
  unfold validK
  rw [Bool.and_eq_true, decide_eq_true_iff, decide_eq_true_iff]
  omega
def SValid : LSpec where
  X := Bs
  k := 0
  pre _ := True
  args x _ := [.str x]
  objs _ _ := []
  out x _ R := R (.sb (validK x)) []
theorem SValid_nt : SValid.Nt := ⟨fun _ _ => rfl, by unfold SValid; (intros; simp only [ren_all] at *; try assumption), by unfold SValid; (intros; simp only [ren_all] at *; try assumption)⟩
theorem SValid_ok : SValid.Ok Try.prog 58 := by
  refine LSpec.of_body noGo mixed conOf_nil Try.func58 rfl (by kernel_rfl) fun k R _ hR => ?_
  have hQ : R (.sb (validK k)) [] := hR
  (conv => whnf)
  constructor
  · intro h1
    have h1 : decide (0 < (k.size : Int)) = true := h1
    (conv => whnf)
    refine ⟨[], _, _, hQ, ?_⟩
    (repeat' (first | exact True.intro | rfl | assumption | exact mc_ok rfl | exact mr_ok | exact fun _ => rfl | (refine And.intro ?_ ?_) | (intro _ _; rfl) | ((conv => whnf); (first | exact True.intro | (refine And.intro ?_ ?_)))))
    all_goals (unfold validK; rw [h1]; rfl)
  · intro h1
    have h1 : decide (0 < (k.size : Int)) = false := h1
    (conv => whnf)
    refine ⟨[], _, _, hQ, ?_⟩
    (repeat' (first | exact True.intro | rfl | assumption | exact mc_ok rfl | exact mr_ok | exact fun _ => rfl | (refine And.intro ?_ ?_) | (intro _ _; rfl) | ((conv => whnf); (first | exact True.intro | (refine And.intro ?_ ?_)))))
    all_goals (unfold validK; rw [h1]; rfl)
def chkE (a b : Bs) : Int := if (validK a && validK b) = true then 0 else 2
theorem chkE_yes {a b : Bs} (h : (validK a && validK b) = true) : chkE a b = 0 := if_pos h
theorem chkE_no {a b : Bs} (h : ¬ (validK a && validK b) = true) : chkE a b = 2 := if_neg h
theorem conCk : ConOk Try.prog (conOf [(46, inl Try.prog (conOf []) Try.f46), (58, SValid.T)]) :=
  conOf_cons (inl_ok noGo mixed conOf_nil Try.func46 (by kernel_rfl)) (conOf_cons (LSpec.call SValid_nt SValid_ok) conOf_nil)
def SCheck : LSpec where
  X := GG × Bs × Bs
  k := 5
  pre x := 1 ≤ x.1.N
  args x θ := [.ptr (θ 0) 0, .str x.2.1, .str x.2.2]
  objs x θ := x.1.objs θ
  out x θ R := R (i64 (chkE x.2.1 x.2.2)) (x.1.all θ)
theorem SCheck_nt : SCheck.Nt := ⟨fun _ _ => rfl, by unfold SCheck GG.objs; (intros; simp only [ren_all] at *; try assumption), by unfold SCheck GG.all; (intros; simp only [ren_all] at *; try assumption)⟩
theorem SCheck_ok : SCheck.Ok Try.prog 43 := by
  refine LSpec.of_body noGo mixed conCk Try.func43 rfl (by kernel_rfl) fun ⟨g, a, b⟩ R hN hR => ?_
  have hN : 1 ≤ g.N := hN
  have hQ : R (i64 (chkE a b)) (g.all _root_.id) := hR
  (conv => whnf)
  refine ⟨fun hh => absurd (show decide (g.N = 0) = true from hh) (by rw [decide_eq_false (by omega)]; decide), fun _ => ?_⟩
  (conv => whnf)
  refine ⟨a, [], trivial, rfl, by (repeat' (first | exact True.intro | rfl | assumption | exact mc_ok rfl | exact mr_ok | exact fun _ => rfl | (refine And.intro ?_ ?_) | (intro _ _; rfl) | ((conv => whnf); (first | exact True.intro | (refine And.intro ?_ ?_))))), by (repeat' (first | exact True.intro | rfl | assumption | exact mc_ok rfl | exact mr_ok | exact fun _ => rfl | (refine And.intro ?_ ?_) | (intro _ _; rfl) | ((conv => whnf); (first | exact True.intro | (refine And.intro ?_ ?_))))), ?_⟩
  (conv => whnf)
  constructor
  · intro h1
    have h1 : validK a = true := by
      have h1 : (!validK a) = false := h1
      simpa using h1
    (conv => whnf)
    refine ⟨b, [], trivial, rfl, by (repeat' (first | exact True.intro | rfl | assumption | exact mc_ok rfl | exact mr_ok | exact fun _ => rfl | (refine And.intro ?_ ?_) | (intro _ _; rfl) | ((conv => whnf); (first | exact True.intro | (refine And.intro ?_ ?_))))), by (repeat' (first | exact True.intro | rfl | assumption | exact mc_ok rfl | exact mr_ok | exact fun _ => rfl | (refine And.intro ?_ ?_) | (intro _ _; rfl) | ((conv => whnf); (first | exact True.intro | (refine And.intro ?_ ?_))))), ?_⟩
    (conv => whnf)
    constructor
    · intro h2
      have h2 : validK b = false := by
        have h2 : (!validK b) = true := h2
        simpa using h2
      rw [chkE_no (by rw [h1, h2]; decide)] at hQ
      (conv => whnf)
      refine ⟨[], _, _, hQ, ?_⟩
      (repeat' (first | exact True.intro | rfl | assumption | exact mc_ok rfl | exact mr_ok | exact fun _ => rfl | (refine And.intro ?_ ?_) | (intro _ _; rfl) | ((conv => whnf); (first | exact True.intro | (refine And.intro ?_ ?_)))))
    · intro h2
      have h2 : validK b = true := by
        have h2 : (!validK b) = false := h2
        simpa using h2
      rw [chkE_yes (by rw [h1, h2]; decide)] at hQ
      (conv => whnf)
      refine ⟨[], _, _, hQ, ?_⟩
      (repeat' (first | exact True.intro | rfl | assumption | exact mc_ok rfl | exact mr_ok | exact fun _ => rfl | (refine And.intro ?_ ?_) | (intro _ _; rfl) | ((conv => whnf); (first | exact True.intro | (refine And.intro ?_ ?_)))))
  · intro h1
    have h1 : validK a = false := by
      have h1 : (!validK a) = true := h1
      simpa using h1
    rw [chkE_no (by rw [h1]; exact Bool.false_ne_true)] at hQ
    (conv => whnf)
    refine ⟨[], _, _, hQ, ?_⟩
    (repeat' (first | exact True.intro | rfl | assumption | exact mc_ok rfl | exact mr_ok | exact fun _ => rfl | (refine And.intro ?_ ?_) | (intro _ _; rfl) | ((conv => whnf); (first | exact True.intro | (refine And.intro ?_ ?_)))))
end Go.Proofs.Ytmgcpfljhcahoaa
