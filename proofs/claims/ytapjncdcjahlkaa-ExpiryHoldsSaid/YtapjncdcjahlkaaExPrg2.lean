/- What the functions of package expiry compute: moving up and down. -/
import Derived.Test.YtapjncdcjahlkaaExPrg
namespace Go.Proofs.Ytapjncdcjahlkaa
open Go Go.RowKit Sy Ex Al
set_option maxRecDepth 100000

theorem conUp : ConOk Try.prog (conOf [(45, SBefore.T)]) := conOf_cons (LSpec.call SBefore_nt SBefore_ok) conOf_nil
def SUp : LSpec where
  X := (Nat × Nat × (Nat → Cell) × KM) × Nat
  k := 3
  pre x := x.2 < x.1.1 ∧ x.1.1 ≤ x.1.2.1 ∧ x.1.1 ≤ 1000000
  args x θ := [fnBefore (θ 0), i64 x.2]
  objs x θ := [hpC (θ 1) (θ 2) x.1.1, tmR x.1.2.1 x.1.2.2.1, mpE x.1.2.2.2]
  out x θ R := R (.tup [i64 (par x.2 : Nat), .sb (decide (0 < x.2 ∧ lt (x.1.2.2.1 x.2) (x.1.2.2.1 (par x.2))))]) [some (hpC (θ 1) (θ 2) x.1.1), some (tmR x.1.2.1 x.1.2.2.1), some (mpE x.1.2.2.2)]
theorem SUp_nt : SUp.Nt := ⟨fun _ _ => rfl, by unfold SUp; (intros; simp only [ren_all] at *; try assumption), by unfold SUp; (intros; simp only [ren_all] at *; try assumption)⟩
theorem par_quo {i : Nat} (hi : i ≤ 1000000) : IntKind.i64.wrap ((IntKind.i64.wrap ((i : Int) - 1)).tdiv 2) = ((par i : Nat) : Int) := by
  rw [wrap_id (n := (i : Int) - 1) (by omega) (by omega)]
  unfold par
  rcases Nat.eq_zero_or_pos i with rfl | h
  · decide
  · rw [Int.tdiv_eq_ediv_of_nonneg (by omega), wrap_id (by omega) (by omega)]
    omega
theorem SUp_ok : SUp.Ok Try.prog 46 := by
  refine LSpec.of_body noGo mixed conUp Try.func46 rfl (by kernel_rfl) fun ⟨⟨n, N, L, E⟩, i⟩ R ⟨hi, hN, hn⟩ hR => ?_
  have hi : i < n := hi
  have hN : n ≤ N := hN
  have hn : n ≤ 1000000 := hn
  have hpq := par_quo (i := i) (by omega)
  have hR : R (.tup [i64 (par i : Nat), .sb (decide (0 < i ∧ lt (L i) (L (par i))))]) [some (hpC 1 2 n), some (tmR N L), some (mpE E)] := hR
  (conv => whnf)
  refine ⟨by decide, ?_⟩
  (conv => whnf)
  constructor
  · intro h
    have h : 0 < i := by have : (0 : Int) < (i : Int) := of_decide_eq_true h; omega
    have hp := par_lt h
    (conv => whnf)
    refine ⟨((n, N, L, E), i, par i), [0, 1, 2], ⟨hi, by show par i < n; omega, hN⟩, rfl, ?_, by (repeat' (first | exact True.intro | rfl | assumption | exact entI_keep _ _ | (refine And.intro ?_ ?_) | (intro _ _; rfl) | ((conv => whnf); (first | exact True.intro | (refine And.intro ?_ ?_))))), ?_⟩
    · (repeat' (first | exact True.intro | rfl | assumption | exact entI_keep _ _ | (refine And.intro ?_ ?_) | (intro _ _; rfl) | ((conv => whnf); (first | exact True.intro | (refine And.intro ?_ ?_)))))
      exact hpq.symm
    (conv => whnf)
    refine ⟨[], _, _, hR, ?_⟩
    (repeat' (first | exact True.intro | rfl | assumption | exact entI_keep _ _ | (refine And.intro ?_ ?_) | (intro _ _; rfl) | ((conv => whnf); (first | exact True.intro | (refine And.intro ?_ ?_)))))
    · exact hpq.symm
    · show decide (0 < i ∧ lt (L i) (L (par i))) = decide (lt (L i) (L (par i)))
      rw [decide_eq_decide]
      exact ⟨fun g => g.2, fun g => ⟨h, g⟩⟩
  · intro h
    have h : ¬ 0 < i := by have : ¬ (0 : Int) < (i : Int) := of_decide_eq_false h; omega
    (conv => whnf)
    refine ⟨[], _, _, hR, ?_⟩
    (repeat' (first | exact True.intro | rfl | assumption | exact entI_keep _ _ | (refine And.intro ?_ ?_) | (intro _ _; rfl) | ((conv => whnf); (first | exact True.intro | (refine And.intro ?_ ?_)))))
    · exact hpq.symm
    · exact decide_eq_false fun g => h g.1

/-- The next one below. -/
def dn (n : Nat) (L : Nat → Cell) (i : Nat) : Nat := if 2 * i + 2 < n ∧ lt (L (2 * i + 2)) (L (2 * i + 1)) then 2 * i + 2 else 2 * i + 1
theorem dn_par {n : Nat} {L : Nat → Cell} {i : Nat} : par (dn n L i) = i ∧ 0 < dn n L i := by unfold dn par; split <;> omega
theorem dn_min {n : Nat} {L : Nat → Cell} {i : Nat} : ∀ s, 0 < s → s < n → par s = i → ¬ lt (L s) (L (dn n L i)) := fun s h0 hs hp => by
  have e : s = 2 * i + 1 ∨ s = 2 * i + 2 := by unfold par at hp; omega
  unfold dn
  split
  · rename_i g
    rcases e with rfl | rfl
    · exact lt_asymm g.2
    · unfold lt; omega
  · rename_i g
    rcases e with rfl | rfl
    · unfold lt; omega
    · exact fun h => g ⟨hs, h⟩
def SDown : LSpec where
  X := (Nat × Nat × (Nat → Cell) × KM) × Nat
  k := 3
  pre x := x.2 < x.1.1 ∧ x.1.1 ≤ x.1.2.1 ∧ x.1.1 ≤ 1000000
  args x θ := [.ptr (θ 0) 0, i64 x.2]
  objs x θ := [hpC (θ 1) (θ 2) x.1.1, tmR x.1.2.1 x.1.2.2.1, mpE x.1.2.2.2]
  out x θ R := R (.tup [i64 (dn x.1.1 x.1.2.2.1 x.2 : Nat), .sb (decide (dn x.1.1 x.1.2.2.1 x.2 < x.1.1 ∧ lt (x.1.2.2.1 (dn x.1.1 x.1.2.2.1 x.2)) (x.1.2.2.1 x.2)))]) [some (hpC (θ 1) (θ 2) x.1.1), some (tmR x.1.2.1 x.1.2.2.1), some (mpE x.1.2.2.2)]
theorem SDown_nt : SDown.Nt := ⟨fun _ _ => rfl, by unfold SDown; (intros; simp only [ren_all] at *; try assumption), by unfold SDown; (intros; simp only [ren_all] at *; try assumption)⟩
theorem SDown_ok : SDown.Ok Try.prog 48 := by
  refine LSpec.of_bodyC [4] noGo mixed conUp Try.func48 rfl (by kernel_rfl) fun ⟨⟨n, N, L, E⟩, i⟩ R ⟨hi, hN, hn⟩ hR => ?_
  have hi : i < n := hi
  have hN : n ≤ N := hN
  have hn : n ≤ 1000000 := hn
  have hR : R (.tup [i64 (dn n L i : Nat), .sb (decide (dn n L i < n ∧ lt (L (dn n L i)) (L i)))]) [some (hpC 1 2 n), some (tmR N L), some (mpE E)] := hR
  have hk : IntKind.i64.wrap (IntKind.i64.wrap (2 * (i : Int)) + 1) = ((2 * i + 1 : Nat) : Int) := by rw [wrap_id (n := 2 * (i : Int)) (by omega) (by omega), wrap_id (by omega) (by omega)]; omega
  have hk2 : IntKind.i64.wrap (IntKind.i64.wrap (IntKind.i64.wrap (2 * (i : Int)) + 1) + 1) = ((2 * i + 2 : Nat) : Int) := by rw [hk, wrap_id (by omega) (by omega)]; omega
  (conv => whnf)
  refine ⟨Unit, fun _ => [(0, .ptr 0 0), (1, i64 i), (6, i64 (dn n L i : Nat))], fun _ => [some (hpC 1 2 n), some (tmR N L), some (mpE E)], fun _ => True, 3, fun _ => rfl, ?_, fun _ _ => ?_⟩
  · (conv => whnf)
    constructor
    · intro h
      have h : 2 * i + 2 < n := by have h : IntKind.i64.wrap (IntKind.i64.wrap (IntKind.i64.wrap (2 * (i : Int)) + 1) + 1) < (n : Int) := of_decide_eq_true h; rw [hk2] at h; omega
      (conv => whnf)
      refine ⟨((n, N, L, E), 2 * i + 2, 2 * i + 1), [0, 1, 2], ⟨h, by show 2 * i + 1 < n; omega, hN⟩, rfl, ?_, by (repeat' (first | exact True.intro | rfl | assumption | exact entI_keep _ _ | (refine And.intro ?_ ?_) | (intro _ _; rfl) | ((conv => whnf); (first | exact True.intro | (refine And.intro ?_ ?_))))), ?_⟩
      · (repeat' (first | exact True.intro | rfl | assumption | exact entI_keep _ _ | (refine And.intro ?_ ?_) | (intro _ _; rfl) | ((conv => whnf); (first | exact True.intro | (refine And.intro ?_ ?_)))))
        · exact hk2.symm
        · exact hk.symm
      (conv => whnf)
      (repeat (first | refine And.intro rfl ?_ | fail))
      (conv => whnf)
      constructor
      · intro g
        have g : lt (L (2 * i + 2)) (L (2 * i + 1)) := of_decide_eq_true g
        have e : dn n L i = 2 * i + 2 := if_pos ⟨h, g⟩
        (conv => whnf)
        refine ⟨(), [], trivial, ?_⟩
        (repeat' (first | exact True.intro | rfl | assumption | exact entI_keep _ _ | (refine And.intro ?_ ?_) | (intro _ _; rfl) | ((conv => whnf); (first | exact True.intro | (refine And.intro ?_ ?_)))))
        show ((dn n L i : Nat) : Int) = _
        rw [e]; exact hk2.symm
      · intro g
        have g : ¬ lt (L (2 * i + 2)) (L (2 * i + 1)) := of_decide_eq_false g
        have e : dn n L i = 2 * i + 1 := if_neg fun q => g q.2
        (conv => whnf)
        refine ⟨(), [], trivial, ?_⟩
        (repeat' (first | exact True.intro | rfl | assumption | exact entI_keep _ _ | (refine And.intro ?_ ?_) | (intro _ _; rfl) | ((conv => whnf); (first | exact True.intro | (refine And.intro ?_ ?_)))))
        show ((dn n L i : Nat) : Int) = _
        rw [e]; exact hk.symm
    · intro h
      have h : ¬ 2 * i + 2 < n := by have h : ¬ IntKind.i64.wrap (IntKind.i64.wrap (IntKind.i64.wrap (2 * (i : Int)) + 1) + 1) < (n : Int) := of_decide_eq_false h; rw [hk2] at h; omega
      have e : dn n L i = 2 * i + 1 := if_neg fun q => h q.1
      (conv => whnf)
      refine ⟨(), [], trivial, ?_⟩
      (repeat' (first | exact True.intro | rfl | assumption | exact entI_keep _ _ | (refine And.intro ?_ ?_) | (intro _ _; rfl) | ((conv => whnf); (first | exact True.intro | (refine And.intro ?_ ?_)))))
      show ((dn n L i : Nat) : Int) = _
      rw [e]; exact hk.symm
  · have hd := dn_par (n := n) (L := L) (i := i)
    (conv => whnf)
    constructor
    · intro h
      have h : dn n L i < n := by have : ((dn n L i : Nat) : Int) < (n : Int) := of_decide_eq_true h; omega
      (conv => whnf)
      refine ⟨((n, N, L, E), dn n L i, i), [0, 1, 2], ⟨h, hi, hN⟩, rfl, by (repeat' (first | exact True.intro | rfl | assumption | exact entI_keep _ _ | (refine And.intro ?_ ?_) | (intro _ _; rfl) | ((conv => whnf); (first | exact True.intro | (refine And.intro ?_ ?_))))), by (repeat' (first | exact True.intro | rfl | assumption | exact entI_keep _ _ | (refine And.intro ?_ ?_) | (intro _ _; rfl) | ((conv => whnf); (first | exact True.intro | (refine And.intro ?_ ?_))))), ?_⟩
      (conv => whnf)
      (repeat (first | refine And.intro rfl ?_ | fail))
      (conv => whnf)
      refine ⟨[], _, _, hR, ?_⟩
      (repeat' (first | exact True.intro | rfl | assumption | exact entI_keep _ _ | (refine And.intro ?_ ?_) | (intro _ _; rfl) | ((conv => whnf); (first | exact True.intro | (refine And.intro ?_ ?_)))))
      show decide (dn n L i < n ∧ lt (L (dn n L i)) (L i)) = decide (lt (L (dn n L i)) (L i))
      rw [decide_eq_decide]
      exact ⟨fun g => g.2, fun g => ⟨h, g⟩⟩
    · intro h
      have h : ¬ dn n L i < n := by have : ¬ ((dn n L i : Nat) : Int) < (n : Int) := of_decide_eq_false h; omega
      (conv => whnf)
      refine ⟨[], _, _, hR, ?_⟩
      (repeat' (first | exact True.intro | rfl | assumption | exact entI_keep _ _ | (refine And.intro ?_ ?_) | (intro _ _; rfl) | ((conv => whnf); (first | exact True.intro | (refine And.intro ?_ ?_)))))
      exact decide_eq_false fun g => h g.1

theorem conClU : ConOk Try.prog (conOf [(46, SUp.T), (42, SSwap.T)]) := conOf_cons (LSpec.call SUp_nt SUp_ok) (conOf_cons (LSpec.call SSwap_nt SSwap_ok) conOf_nil)
def SClU : LSpec where
  X := (Nat × Nat × (Nat → Cell) × KM) × Nat
  k := 3
  pre x := x.2 < x.1.1 ∧ x.1.1 ≤ x.1.2.1 ∧ x.1.1 ≤ 1000000 ∧ MI x.1.1 x.1.2.2.1 x.1.2.2.2 ∧ Off x.1.1 x.1.2.2.1 x.2
  args x θ := [fnBefore (θ 0), i64 x.2, fnUp, fnSwap (θ 0)]
  objs x θ := [hpC (θ 1) (θ 2) x.1.1, tmR x.1.2.1 x.1.2.2.1, mpE x.1.2.2.2]
  out x θ R := ∀ L' E', MI x.1.1 L' E' → Low x.1.1 L' x.2 → Same x.1.1 x.1.2.2.1 L' → R (.tup []) [some (hpC (θ 1) (θ 2) x.1.1), some (tmR x.1.2.1 L'), some (mpE E')]
theorem SClU_nt : SClU.Nt := ⟨fun _ _ => rfl, by unfold SClU; (intros; simp only [ren_all] at *; try assumption), by unfold SClU; (intros; simp only [ren_all] at *; try assumption)⟩
theorem SClU_ok : SClU.Ok Try.prog 44 := by
  refine LSpec.of_body noGo mixed conClU Try.func44 rfl (by kernel_rfl) fun ⟨⟨n, N, L, E⟩, i⟩ R ⟨hi, hN, hn, hm, ho⟩ hR => ?_
  have hi : i < n := hi
  have hN : n ≤ N := hN
  have hn : n ≤ 1000000 := hn
  have hm : MI n L E := hm
  have ho : Off n L i := ho
  (conv => whnf)
  refine .inl ⟨Nat × (Nat → Cell) × KM, fun x => [(0, fnBefore 0), (1, i64 (x.1 : Nat)), (2, fnUp), (3, fnSwap 0)], fun x => [some (hpC 1 2 n), some (tmR N x.2.1), some (mpE x.2.2)], fun x => x.1,
    fun x => x.1 < n ∧ MI n x.2.1 x.2.2 ∧ Same n L x.2.1 ∧ ((x.1 = i ∧ Off n x.2.1 i) ∨ Up n x.2.1 x.1), 3, ⟨(i, L, E), [], ⟨hi, hm, Same.refl n L, .inl ⟨rfl, ho⟩⟩, ?_⟩, fun _ => rfl, fun ⟨j, L1, E1⟩ ⟨hj, hm1, hs1, hu⟩ => ?_⟩
  · (repeat' (first | exact True.intro | rfl | assumption | exact entI_keep _ _ | (refine And.intro ?_ ?_) | (intro _ _; rfl) | ((conv => whnf); (first | exact True.intro | (refine And.intro ?_ ?_)))))
  have hj : j < n := hj
  have hm1 : MI n L1 E1 := hm1
  have hs1 : Same n L L1 := hs1
  have hu : (j = i ∧ Off n L1 i) ∨ Up n L1 j := hu
  have hoff : Off n L1 j := by
    rcases hu with ⟨e, h⟩ | h
    · rw [e]; exact h
    · exact h.off
  (conv => whnf)
  refine ⟨((n, N, L1, E1), j), [0, 1, 2], ⟨hj, hN, hn⟩, rfl, by (repeat' (first | exact True.intro | rfl | assumption | exact entI_keep _ _ | (refine And.intro ?_ ?_) | (intro _ _; rfl) | ((conv => whnf); (first | exact True.intro | (refine And.intro ?_ ?_))))), by (repeat' (first | exact True.intro | rfl | assumption | exact entI_keep _ _ | (refine And.intro ?_ ?_) | (intro _ _; rfl) | ((conv => whnf); (first | exact True.intro | (refine And.intro ?_ ?_))))), ?_⟩
  (conv => whnf)
  constructor
  · intro h
    have h : ¬ (0 < j ∧ lt (L1 j) (L1 (par j))) := fun g => by
      have h : (!decide (0 < j ∧ lt (L1 j) (L1 (par j)))) = true := h
      rw [decide_eq_true g] at h
      exact absurd h (by decide)
    have hstop : 0 < j → ¬ lt (L1 j) (L1 (par j)) := fun h1 h2 => h ⟨h1, h2⟩
    have hlow : Low n L1 i := by
      rcases hu with ⟨e, _⟩ | h
      · subst e; exact hoff.stop hstop
      · exact (h.stop hstop).low i
    have hRR := hR L1 E1 hm1 hlow hs1
    (conv => whnf)
    refine ⟨[], _, _, hRR, ?_⟩
    (repeat' (first | exact True.intro | rfl | assumption | exact entI_keep _ _ | (refine And.intro ?_ ?_) | (intro _ _; rfl) | ((conv => whnf); (first | exact True.intro | (refine And.intro ?_ ?_)))))
  · intro h
    have h : 0 < j ∧ lt (L1 j) (L1 (par j)) := Decidable.byContradiction fun g => by
      have h : (!decide (0 < j ∧ lt (L1 j) (L1 (par j)))) = false := h
      rw [decide_eq_false g] at h
      exact absurd h (by decide)
    have hp := par_lt h.1
    (conv => whnf)
    refine ⟨((n, N, L1, E1), j, par j), [0, 1, 2], ⟨hj, by show par j < n; omega, hN, hm1⟩, rfl, by (repeat' (first | exact True.intro | rfl | assumption | exact entI_keep _ _ | (refine And.intro ?_ ?_) | (intro _ _; rfl) | ((conv => whnf); (first | exact True.intro | (refine And.intro ?_ ?_))))), by (repeat' (first | exact True.intro | rfl | assumption | exact entI_keep _ _ | (refine And.intro ?_ ?_) | (intro _ _; rfl) | ((conv => whnf); (first | exact True.intro | (refine And.intro ?_ ?_))))), fun E2 hm2 => ?_⟩
    (conv => whnf)
    refine ⟨(par j, swp L1 j (par j), E2), [], hp, ⟨by show par j < n; omega, hm2, hs1.trans (swp_same hj (by omega)), .inr (hoff.up2 h.1 hj h.2)⟩, ?_⟩
    (repeat' (first | exact True.intro | rfl | assumption | exact entI_keep _ _ | (refine And.intro ?_ ?_) | (intro _ _; rfl) | ((conv => whnf); (first | exact True.intro | (refine And.intro ?_ ?_)))))
theorem conClD : ConOk Try.prog (conOf [(48, SDown.T), (42, SSwap.T)]) := conOf_cons (LSpec.call SDown_nt SDown_ok) (conOf_cons (LSpec.call SSwap_nt SSwap_ok) conOf_nil)
def SClD : LSpec where
  X := (Nat × Nat × (Nat → Cell) × KM) × Nat
  k := 3
  pre x := x.2 < x.1.1 ∧ x.1.1 ≤ x.1.2.1 ∧ x.1.1 ≤ 1000000 ∧ MI x.1.1 x.1.2.2.1 x.1.2.2.2 ∧ Low x.1.1 x.1.2.2.1 x.2
  args x θ := [.ptr (θ 0) 0, i64 x.2, fnDown, fnSwap (θ 0)]
  objs x θ := [hpC (θ 1) (θ 2) x.1.1, tmR x.1.2.1 x.1.2.2.1, mpE x.1.2.2.2]
  out x θ R := ∀ L' E', MI x.1.1 L' E' → Heap x.1.1 L' → Same x.1.1 x.1.2.2.1 L' → R (.tup []) [some (hpC (θ 1) (θ 2) x.1.1), some (tmR x.1.2.1 L'), some (mpE E')]
theorem SClD_nt : SClD.Nt := ⟨fun _ _ => rfl, by unfold SClD; (intros; simp only [ren_all] at *; try assumption), by unfold SClD; (intros; simp only [ren_all] at *; try assumption)⟩
theorem SClD_ok : SClD.Ok Try.prog 47 := by
  refine LSpec.of_body noGo mixed conClD Try.func47 rfl (by kernel_rfl) fun ⟨⟨n, N, L, E⟩, i⟩ R ⟨hi, hN, hn, hm, ho⟩ hR => ?_
  have hi : i < n := hi
  have hN : n ≤ N := hN
  have hn : n ≤ 1000000 := hn
  have hm : MI n L E := hm
  have ho : Low n L i := ho
  (conv => whnf)
  refine .inl ⟨Nat × (Nat → Cell) × KM, fun x => [(0, .ptr 0 0), (1, i64 (x.1 : Nat)), (2, fnDown), (3, fnSwap 0)], fun x => [some (hpC 1 2 n), some (tmR N x.2.1), some (mpE x.2.2)], fun x => n - x.1,
    fun x => x.1 < n ∧ MI n x.2.1 x.2.2 ∧ Same n L x.2.1 ∧ Low n x.2.1 x.1, 3, ⟨(i, L, E), [], ⟨hi, hm, Same.refl n L, ho⟩, ?_⟩, fun _ => rfl, fun ⟨j, L1, E1⟩ ⟨hj, hm1, hs1, hu⟩ => ?_⟩
  · (repeat' (first | exact True.intro | rfl | assumption | exact entI_keep _ _ | (refine And.intro ?_ ?_) | (intro _ _; rfl) | ((conv => whnf); (first | exact True.intro | (refine And.intro ?_ ?_)))))
  have hj : j < n := hj
  have hm1 : MI n L1 E1 := hm1
  have hs1 : Same n L L1 := hs1
  have hu : Low n L1 j := hu
  have hd := dn_par (n := n) (L := L1) (i := j)
  have hpl := par_lt hd.2
  (conv => whnf)
  refine ⟨((n, N, L1, E1), j), [0, 1, 2], ⟨hj, hN, hn⟩, rfl, by (repeat' (first | exact True.intro | rfl | assumption | exact entI_keep _ _ | (refine And.intro ?_ ?_) | (intro _ _; rfl) | ((conv => whnf); (first | exact True.intro | (refine And.intro ?_ ?_))))), by (repeat' (first | exact True.intro | rfl | assumption | exact entI_keep _ _ | (refine And.intro ?_ ?_) | (intro _ _; rfl) | ((conv => whnf); (first | exact True.intro | (refine And.intro ?_ ?_))))), ?_⟩
  (conv => whnf)
  constructor
  · intro h
    have h : ¬ (dn n L1 j < n ∧ lt (L1 (dn n L1 j)) (L1 j)) := fun g => by
      have h : (!decide (dn n L1 j < n ∧ lt (L1 (dn n L1 j)) (L1 j))) = true := h
      rw [decide_eq_true g] at h
      exact absurd h (by decide)
    have hheap : Heap n L1 := hu.stop fun s h0 hs hp => by
      have hmin := dn_min (n := n) (L := L1) (i := j) s h0 hs hp
      by_cases g : dn n L1 j < n
      · exact le_trans hmin fun q => h ⟨g, q⟩
      · have e : s = 2 * j + 1 ∨ s = 2 * j + 2 := by unfold par at hp; omega
        unfold dn at g
        split at g
        · rename_i q; omega
        · omega
    have hRR := hR L1 E1 hm1 hheap hs1
    (conv => whnf)
    refine ⟨[], _, _, hRR, ?_⟩
    (repeat' (first | exact True.intro | rfl | assumption | exact entI_keep _ _ | (refine And.intro ?_ ?_) | (intro _ _; rfl) | ((conv => whnf); (first | exact True.intro | (refine And.intro ?_ ?_)))))
  · intro h
    have h : dn n L1 j < n ∧ lt (L1 (dn n L1 j)) (L1 j) := Decidable.byContradiction fun g => by
      have h : (!decide (dn n L1 j < n ∧ lt (L1 (dn n L1 j)) (L1 j))) = false := h
      rw [decide_eq_false g] at h
      exact absurd h (by decide)
    (conv => whnf)
    refine ⟨((n, N, L1, E1), j, dn n L1 j), [0, 1, 2], ⟨hj, h.1, hN, hm1⟩, rfl, by (repeat' (first | exact True.intro | rfl | assumption | exact entI_keep _ _ | (refine And.intro ?_ ?_) | (intro _ _; rfl) | ((conv => whnf); (first | exact True.intro | (refine And.intro ?_ ?_))))), by (repeat' (first | exact True.intro | rfl | assumption | exact entI_keep _ _ | (refine And.intro ?_ ?_) | (intro _ _; rfl) | ((conv => whnf); (first | exact True.intro | (refine And.intro ?_ ?_))))), fun E2 hm2 => ?_⟩
    (conv => whnf)
    refine ⟨(dn n L1 j, swp L1 j (dn n L1 j), E2), [], by show n - dn n L1 j < n - j; omega, ⟨h.1, hm2, hs1.trans (swp_same hj h.1), hu.down hd.2 h.1 hd.1 h.2 dn_min⟩, ?_⟩
    (repeat' (first | exact True.intro | rfl | assumption | exact entI_keep _ _ | (refine And.intro ?_ ?_) | (intro _ _; rfl) | ((conv => whnf); (first | exact True.intro | (refine And.intro ?_ ?_)))))
theorem conSet : ConOk Try.prog (conOf [(44, SClU.T), (47, SClD.T)]) := conOf_cons (LSpec.call SClU_nt SClU_ok) (conOf_cons (LSpec.call SClD_nt SClD_ok) conOf_nil)
def SSettle : LSpec where
  X := (Nat × Nat × (Nat → Cell) × KM) × Nat
  k := 3
  pre x := x.2 < x.1.1 ∧ x.1.1 ≤ x.1.2.1 ∧ x.1.1 ≤ 1000000 ∧ MI x.1.1 x.1.2.2.1 x.1.2.2.2 ∧ Off x.1.1 x.1.2.2.1 x.2
  args x θ := [.ptr (θ 0) 0, i64 x.2]
  objs x θ := [hpC (θ 1) (θ 2) x.1.1, tmR x.1.2.1 x.1.2.2.1, mpE x.1.2.2.2]
  out x θ R := ∀ L' E', MI x.1.1 L' E' → Heap x.1.1 L' → Same x.1.1 x.1.2.2.1 L' → R (.tup []) [some (hpC (θ 1) (θ 2) x.1.1), some (tmR x.1.2.1 L'), some (mpE E')]
theorem SSettle_nt : SSettle.Nt := ⟨fun _ _ => rfl, by unfold SSettle; (intros; simp only [ren_all] at *; try assumption), by unfold SSettle; (intros; simp only [ren_all] at *; try assumption)⟩
theorem SSettle_ok : SSettle.Ok Try.prog 30 := by
  refine LSpec.of_body noGo mixed conSet Try.func30 rfl (by kernel_rfl) fun ⟨⟨n, N, L, E⟩, i⟩ R ⟨hi, hN, hn, hm, ho⟩ hR => ?_
  (conv => whnf)
  refine ⟨((n, N, L, E), i), [0, 1, 2], ⟨hi, hN, hn, hm, ho⟩, rfl, by (repeat' (first | exact True.intro | rfl | assumption | exact entI_keep _ _ | (refine And.intro ?_ ?_) | (intro _ _; rfl) | ((conv => whnf); (first | exact True.intro | (refine And.intro ?_ ?_))))), by (repeat' (first | exact True.intro | rfl | assumption | exact entI_keep _ _ | (refine And.intro ?_ ?_) | (intro _ _; rfl) | ((conv => whnf); (first | exact True.intro | (refine And.intro ?_ ?_))))), fun L1 E1 hm1 hl1 hs1 => ?_⟩
  (conv => whnf)
  refine ⟨((n, N, L1, E1), i), [0, 1, 2], ⟨hi, hN, hn, hm1, hl1⟩, rfl, by (repeat' (first | exact True.intro | rfl | assumption | exact entI_keep _ _ | (refine And.intro ?_ ?_) | (intro _ _; rfl) | ((conv => whnf); (first | exact True.intro | (refine And.intro ?_ ?_))))), by (repeat' (first | exact True.intro | rfl | assumption | exact entI_keep _ _ | (refine And.intro ?_ ?_) | (intro _ _; rfl) | ((conv => whnf); (first | exact True.intro | (refine And.intro ?_ ?_))))), fun L2 E2 hm2 hl2 hs2 => ?_⟩
  (conv => whnf)
  have hRR := hR L2 E2 hm2 hl2 (Same.trans hs1 hs2)
  refine ⟨[], _, _, hRR, ?_⟩
  (repeat' (first | exact True.intro | rfl | assumption | exact entI_keep _ _ | (refine And.intro ?_ ?_) | (intro _ _; rfl) | ((conv => whnf); (first | exact True.intro | (refine And.intro ?_ ?_)))))
end Go.Proofs.Ytapjncdcjahlkaa
