/- What the reference of graphs computes: Find, Children, Parents. -/
import Derived.Test.YtmgcpfljhcahoaaGrRefR
import Derived.Test.YtmgcpfljhcahoaaGrLaw1R
namespace Go.Proofs.Ytmgcpfljhcahoaa
open Go Sy Tb Gr
set_option maxRecDepth 100000
set_option maxHeartbeats 2000000
def SRFind : LSpec where
  X := (Int × Int × List Ed) × Ed
  k := 1
  pre x := x.1.2.2.length ≤ 20000
  args x θ := [rgV (θ 0) x.1.1 x.1.2.1 x.1.2.2, .agg [.str x.2.1, .str x.2.2]]
  objs x _ := [edR x.1.2.2]
  out x _ R := R (i64 (fE x.1.2.2 x.2)) [some (edR x.1.2.2)]
theorem SRFind_nt : SRFind.Nt := ⟨fun _ _ => rfl, fun _ _ => rfl, fun _ _ _ h => h⟩
theorem SRFind_ok : SRFind.Ok Try.prog 36 := by
  refine LSpec.of_body noGo mixed conOf_nil Try.func36 rfl (by kernel_rfl) fun ⟨⟨N, M, E⟩, e⟩ R hl hR => ?_
  have hl : E.length ≤ 20000 := hl
  have hQ : R (i64 (fE E e)) [some (edR E)] := hR
  (conv => whnf)
  refine .inl ⟨Nat, fun i => [(2, .ptr 1 0), (3, .ptr 2 0), (5, i64 i)], fun _ => [some (edR E), some (.cells [i64 N, i64 M, .sl 0 0 2 E.length false] 32), some (.cells [.str e.1, .str e.2] 50)], fun i => E.length - i, fun i => i ≤ E.length ∧ ∀ j, j < i → E.getD j e00 ≠ e, 3, ⟨0, [some 1, some 2], ⟨Nat.zero_le _, fun j hj => absurd hj (Nat.not_lt_zero j)⟩, ?_⟩, fun _ => rfl, fun i ⟨hi, hb⟩ => ?_⟩
  · (repeat' (first | exact True.intro | rfl | assumption | exact mc_ok rfl | exact mr_ok | exact fun _ => rfl | (refine And.intro ?_ ?_) | (intro _ _; rfl) | ((conv => whnf); (first | exact True.intro | (refine And.intro ?_ ?_)))))
  have hi : i ≤ E.length := hi
  have ei := zero_add_toNat i
  (conv => whnf)
  constructor
  · intro h
    have h : i < E.length := by have : (i : Int) < (E.length : Int) := of_decide_eq_true h; omega
    (conv => whnf)
    refine ⟨by show (0 : Int) ≤ (i : Int); omega, by show (i : Int) < (E.length : Int); omega, ?_⟩
    (conv => whnf)
    refine ⟨by rw [ei]; exact h, ?_⟩
    (conv => whnf)
    refine ⟨by kernel_rfl, edEq _ _ _ _, ?_⟩
    (conv => whnf)
    constructor
    · intro h2
      have h2 : eqL [.str (E.getD (0 + (i : Int).toNat) e00).1, .str (E.getD (0 + (i : Int).toNat) e00).2] [.str e.1, .str e.2] = true := h2
      rw [eqL_ed, decide_eq_true_iff, ei] at h2
      rw [fE_hit h hb h2] at hQ
      (conv => whnf)
      refine ⟨[], _, _, hQ, ?_⟩
      (repeat' (first | exact True.intro | rfl | assumption | exact mc_ok rfl | exact mr_ok | exact fun _ => rfl | (refine And.intro ?_ ?_) | (intro _ _; rfl) | ((conv => whnf); (first | exact True.intro | (refine And.intro ?_ ?_)))))
    · intro h2
      have h2 : eqL [.str (E.getD (0 + (i : Int).toNat) e00).1, .str (E.getD (0 + (i : Int).toNat) e00).2] [.str e.1, .str e.2] = false := h2
      rw [eqL_ed, decide_eq_false_iff_not, ei] at h2
      (conv => whnf)
      refine ⟨i + 1, [some 1, some 2], by show E.length - (i + 1) < E.length - i; omega, ⟨by show i + 1 ≤ E.length; omega, fun j hj => ?_⟩, ?_⟩
      · rcases Nat.lt_or_ge j i with q | q
        · exact hb j q
        · obtain rfl : j = i := by have : j < i + 1 := hj; omega
          exact h2
      (repeat' (first | exact True.intro | rfl | assumption | exact mc_ok rfl | exact mr_ok | exact fun _ => rfl | (refine And.intro ?_ ?_) | (intro _ _; rfl) | ((conv => whnf); (first | exact True.intro | (refine And.intro ?_ ?_)))))
      exact (wrap_inc h (by omega)).symm
  · intro h
    have h : ¬ i < E.length := by have : ¬ (i : Int) < (E.length : Int) := of_decide_eq_false h; omega
    obtain rfl : i = E.length := by omega
    rw [fE_miss hb] at hQ
    (conv => whnf)
    refine ⟨[], _, _, hQ, ?_⟩
    (repeat' (first | exact True.intro | rfl | assumption | exact mc_ok rfl | exact mr_ok | exact fun _ => rfl | (refine And.intro ?_ ?_) | (intro _ _; rfl) | ((conv => whnf); (first | exact True.intro | (refine And.intro ?_ ?_)))))

def SRChildren : LSpec where
  X := (Int × Int × List Ed) × Bs
  k := 1
  pre x := x.1.2.2.length ≤ 20000
  args x θ := [rgV (θ 0) x.1.1 x.1.2.1 x.1.2.2, .str x.2]
  objs x _ := [edR x.1.2.2]
  out x θ R := R (.sl (θ 1) 0 1 (chE x.1.2.2 x.2).length false) [some (edR x.1.2.2), some (stR (chE x.1.2.2 x.2))]
theorem SRChildren_nt : SRChildren.Nt := ⟨fun _ _ => rfl, fun _ _ => rfl, fun _ _ _ h => h⟩
theorem SRChildren_ok : SRChildren.Ok Try.prog 37 := by
  refine LSpec.of_body noGo mixed conOf_nil Try.func37 rfl (by kernel_rfl) fun ⟨⟨N, M, E⟩, k⟩ R hl hR => ?_
  have hl : E.length ≤ 20000 := hl
  have hQ : R (.sl 1 0 1 (chE E k).length false) [some (edR E), some (stR (chE E k))] := hR
  (conv => whnf)
  refine .inl ⟨Nat × List Bs, fun x => [(1, .str k), (2, .ptr 1 0), (5, .sl 2 0 1 x.2.length false), (6, i64 x.1)], fun x => [some (edR E), some (.cells [i64 N, i64 M, .sl 0 0 2 E.length false] 32), some (stR x.2)], fun x => E.length - x.1, fun x => x.1 ≤ E.length ∧ x.2 = chE (E.take x.1) k, 3, ⟨(0, []), [some 1, none], ⟨Nat.zero_le _, rfl⟩, ?_⟩, fun _ => rfl, fun ⟨i, o⟩ ⟨hi, ho⟩ => ?_⟩
  · (repeat' (first | exact True.intro | rfl | assumption | exact mc_ok rfl | exact mr_ok | exact fun _ => rfl | (refine And.intro ?_ ?_) | (intro _ _; rfl) | ((conv => whnf); (first | exact True.intro | (refine And.intro ?_ ?_)))))
  have hi : i ≤ E.length := hi
  have ho : o = chE (E.take i) k := ho
  have ei := zero_add_toNat i
  (conv => whnf)
  constructor
  · intro h
    have h : i < E.length := by have : (i : Int) < (E.length : Int) := of_decide_eq_true h; omega
    have hol : o.length ≤ 20000 := by rw [ho]; exact Nat.le_trans (chE_len _ _) (Nat.le_trans (take_le E i) hl)
    (conv => whnf)
    refine ⟨by show (0 : Int) ≤ (i : Int); omega, by show (i : Int) < (E.length : Int); omega, ?_⟩
    (conv => whnf)
    refine ⟨by rw [ei]; exact h, ?_⟩
    (conv => whnf)
    constructor
    · intro h2
      have h2 : (E.getD (0 + (i : Int).toNat) (eS, eS)).1 = k := of_decide_eq_true h2
      rw [ei] at h2
      have hy := chE_yes h h2
      rw [← ho] at hy
      (conv => whnf)
      refine ⟨by show (0 : Int) ≤ (i : Int); omega, by show (i : Int) < (E.length : Int); omega, ?_⟩
      (conv => whnf)
      refine ⟨by rw [ei]; exact h, ?_⟩
      (conv => whnf)
      refine ⟨some (fun q => [.str ((o ++ [(E.getD i e00).2]).getD q eS)]), ?_⟩
      (conv => whnf)
      refine ⟨by decide, by show 0 + o.length ≤ o.length; omega, by show (o.length + 1) * (16 + 1) ≤ 1000000000; omega, fun q hq => ?_, ?_⟩
      · show ([.str ((o ++ [(E.getD i e00).2]).getD q eS)] : List V) = appF o.length (fun q => [.str (o.getD (0 + q) eS)]) (fun q => chunk [.str (E.getD (0 + (i : Int).toNat) (eS, eS)).2] 1 (0 + q)) q
        rw [ei]
        exact st_push q hq
      (conv => whnf)
      refine ⟨(i + 1, o ++ [(E.getD i e00).2]), [some 1, some 4], by show E.length - (i + 1) < E.length - i; omega, ⟨by show i + 1 ≤ E.length; omega, hy.symm⟩, ?_⟩
      (repeat' (first | exact True.intro | rfl | assumption | exact mc_ok rfl | exact mr_ok | exact fun _ => rfl | (refine And.intro ?_ ?_) | (intro _ _; rfl) | ((conv => whnf); (first | exact True.intro | (refine And.intro ?_ ?_)))))
      all_goals first | exact (wrap_inc h (by omega)).symm | exact szL_snoc
    · intro h2
      have h2 : ¬ (E.getD (0 + (i : Int).toNat) (eS, eS)).1 = k := of_decide_eq_false h2
      rw [ei] at h2
      have hy := chE_no h h2
      rw [← ho] at hy
      (conv => whnf)
      refine ⟨(i + 1, o), [some 1, some 2], by show E.length - (i + 1) < E.length - i; omega, ⟨by show i + 1 ≤ E.length; omega, hy.symm⟩, ?_⟩
      (repeat' (first | exact True.intro | rfl | assumption | exact mc_ok rfl | exact mr_ok | exact fun _ => rfl | (refine And.intro ?_ ?_) | (intro _ _; rfl) | ((conv => whnf); (first | exact True.intro | (refine And.intro ?_ ?_)))))
      all_goals exact (wrap_inc h (by omega)).symm
  · intro h
    have h : ¬ i < E.length := by have : ¬ (i : Int) < (E.length : Int) := of_decide_eq_false h; omega
    have e : o = chE E k := by rw [ho, List.take_of_length_le (by omega)]
    subst e
    (conv => whnf)
    refine ⟨[some 2], _, _, hQ, ?_⟩
    (repeat' (first | exact True.intro | rfl | assumption | exact mc_ok rfl | exact mr_ok | exact fun _ => rfl | (refine And.intro ?_ ?_) | (intro _ _; rfl) | ((conv => whnf); (first | exact True.intro | (refine And.intro ?_ ?_)))))

def SRParents : LSpec where
  X := (Int × Int × List Ed) × Bs
  k := 1
  pre x := x.1.2.2.length ≤ 20000
  args x θ := [rgV (θ 0) x.1.1 x.1.2.1 x.1.2.2, .str x.2]
  objs x _ := [edR x.1.2.2]
  out x θ R := R (.sl (θ 1) 0 1 (prE x.1.2.2 x.2).length false) [some (edR x.1.2.2), some (stR (prE x.1.2.2 x.2))]
theorem SRParents_nt : SRParents.Nt := ⟨fun _ _ => rfl, fun _ _ => rfl, fun _ _ _ h => h⟩
theorem SRParents_ok : SRParents.Ok Try.prog 38 := by
  refine LSpec.of_body noGo mixed conOf_nil Try.func38 rfl (by kernel_rfl) fun ⟨⟨N, M, E⟩, k⟩ R hl hR => ?_
  have hl : E.length ≤ 20000 := hl
  have hQ : R (.sl 1 0 1 (prE E k).length false) [some (edR E), some (stR (prE E k))] := hR
  (conv => whnf)
  refine .inl ⟨Nat × List Bs, fun x => [(1, .str k), (2, .ptr 1 0), (5, .sl 2 0 1 x.2.length false), (6, i64 x.1)], fun x => [some (edR E), some (.cells [i64 N, i64 M, .sl 0 0 2 E.length false] 32), some (stR x.2)], fun x => E.length - x.1, fun x => x.1 ≤ E.length ∧ x.2 = prE (E.take x.1) k, 3, ⟨(0, []), [some 1, none], ⟨Nat.zero_le _, rfl⟩, ?_⟩, fun _ => rfl, fun ⟨i, o⟩ ⟨hi, ho⟩ => ?_⟩
  · (repeat' (first | exact True.intro | rfl | assumption | exact mc_ok rfl | exact mr_ok | exact fun _ => rfl | (refine And.intro ?_ ?_) | (intro _ _; rfl) | ((conv => whnf); (first | exact True.intro | (refine And.intro ?_ ?_)))))
  have hi : i ≤ E.length := hi
  have ho : o = prE (E.take i) k := ho
  have ei := zero_add_toNat i
  (conv => whnf)
  constructor
  · intro h
    have h : i < E.length := by have : (i : Int) < (E.length : Int) := of_decide_eq_true h; omega
    have hol : o.length ≤ 20000 := by rw [ho]; exact Nat.le_trans (prE_len _ _) (Nat.le_trans (take_le E i) hl)
    (conv => whnf)
    refine ⟨by show (0 : Int) ≤ (i : Int); omega, by show (i : Int) < (E.length : Int); omega, ?_⟩
    (conv => whnf)
    refine ⟨by rw [ei]; exact h, ?_⟩
    (conv => whnf)
    constructor
    · intro h2
      have h2 : (E.getD (0 + (i : Int).toNat) (eS, eS)).2 = k := of_decide_eq_true h2
      rw [ei] at h2
      have hy := prE_yes h h2
      rw [← ho] at hy
      (conv => whnf)
      refine ⟨by show (0 : Int) ≤ (i : Int); omega, by show (i : Int) < (E.length : Int); omega, ?_⟩
      (conv => whnf)
      refine ⟨by rw [ei]; exact h, ?_⟩
      (conv => whnf)
      refine ⟨some (fun q => [.str ((o ++ [(E.getD i e00).1]).getD q eS)]), ?_⟩
      (conv => whnf)
      refine ⟨by decide, by show 0 + o.length ≤ o.length; omega, by show (o.length + 1) * (16 + 1) ≤ 1000000000; omega, fun q hq => ?_, ?_⟩
      · show ([.str ((o ++ [(E.getD i e00).1]).getD q eS)] : List V) = appF o.length (fun q => [.str (o.getD (0 + q) eS)]) (fun q => chunk [.str (E.getD (0 + (i : Int).toNat) (eS, eS)).1] 1 (0 + q)) q
        rw [ei]
        exact st_push q hq
      (conv => whnf)
      refine ⟨(i + 1, o ++ [(E.getD i e00).1]), [some 1, some 4], by show E.length - (i + 1) < E.length - i; omega, ⟨by show i + 1 ≤ E.length; omega, hy.symm⟩, ?_⟩
      (repeat' (first | exact True.intro | rfl | assumption | exact mc_ok rfl | exact mr_ok | exact fun _ => rfl | (refine And.intro ?_ ?_) | (intro _ _; rfl) | ((conv => whnf); (first | exact True.intro | (refine And.intro ?_ ?_)))))
      all_goals first | exact (wrap_inc h (by omega)).symm | exact szL_snoc
    · intro h2
      have h2 : ¬ (E.getD (0 + (i : Int).toNat) (eS, eS)).2 = k := of_decide_eq_false h2
      rw [ei] at h2
      have hy := prE_no h h2
      rw [← ho] at hy
      (conv => whnf)
      refine ⟨(i + 1, o), [some 1, some 2], by show E.length - (i + 1) < E.length - i; omega, ⟨by show i + 1 ≤ E.length; omega, hy.symm⟩, ?_⟩
      (repeat' (first | exact True.intro | rfl | assumption | exact mc_ok rfl | exact mr_ok | exact fun _ => rfl | (refine And.intro ?_ ?_) | (intro _ _; rfl) | ((conv => whnf); (first | exact True.intro | (refine And.intro ?_ ?_)))))
      all_goals exact (wrap_inc h (by omega)).symm
  · intro h
    have h : ¬ i < E.length := by have : ¬ (i : Int) < (E.length : Int) := of_decide_eq_false h; omega
    have e : o = prE E k := by rw [ho, List.take_of_length_le (by omega)]
    subst e
    (conv => whnf)
    refine ⟨[some 2], _, _, hQ, ?_⟩
    (repeat' (first | exact True.intro | rfl | assumption | exact mc_ok rfl | exact mr_ok | exact fun _ => rfl | (refine And.intro ?_ ?_) | (intro _ _; rfl) | ((conv => whnf); (first | exact True.intro | (refine And.intro ?_ ?_)))))
end Go.Proofs.Ytmgcpfljhcahoaa
