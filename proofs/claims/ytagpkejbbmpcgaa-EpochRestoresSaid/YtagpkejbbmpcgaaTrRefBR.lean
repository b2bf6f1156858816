/- What the reference of the trie computes: Cut, Max, Longest. -/
import Derived.Test.YtagpkejbbmpcgaaTrRefR
namespace Go.Proofs.Ytagpkejbbmpcgaa
open Go Go.RowKit Sy Ti
set_option maxRecDepth 100000
set_option maxHeartbeats 4000000

def cutE (m : List Pr) (p : Bs) : List Pr × Int × Int := if p.size ≤ 250 then (cutR m p, ((undR m p).length : Nat), 0) else (m, 0, 2)
/-- The list is given up: what comes back may be the same one. -/
def SRCut : LSpec where
  X := List Pr × Bs
  k := 1
  pre x := x.1.length ≤ 1000000
  args x θ := [.sl (θ 0) 0 2 x.1.length false, .str x.2]
  objs x _ := [prR x.1]
  out x θ R := R (.tup [.sl (θ 1) 0 2 (cutE x.1 x.2).1.length false, i64 (cutE x.1 x.2).2.1, i64 (cutE x.1 x.2).2.2]) [none, some (prR (cutE x.1 x.2).1)]
theorem SRCut_nt : SRCut.Nt := ⟨fun _ _ => rfl, fun _ _ => rfl, fun _ _ _ h => h⟩
theorem SRCut_ok : SRCut.Ok Try.prog 54 := by
  refine LSpec.of_body noGo mixed conHas Try.func54 rfl (by kernel_rfl) fun ⟨w, s⟩ R hlen hR => ?_
  have hlen : w.length ≤ 1000000 := hlen
  have hR : R (.tup [.sl 1 0 2 (cutE w s).1.length false, i64 (cutE w s).2.1, i64 (cutE w s).2.2]) [none, some (prR (cutE w s).1)] := hR
  show bodyP _ _ _ _ _ [.sl 0 0 2 w.length false, .str s] ⟨1, Tr.ofL 0 [prR w] .leaf⟩ _
  (conv => whnf)
  constructor
  · intro h
    have h : ¬ s.size ≤ 250 := fun q => by
      have h : (!decide ((s.size : Int) ≤ 250)) = true := h
      rw [decide_eq_true (show (s.size : Int) ≤ 250 by omega)] at h
      cases h
    have e : cutE w s = (w, 0, 2) := if_neg h
    rw [e] at hR
    (conv => whnf)
    refine ⟨[some 0], _, _, hR, ?_⟩
    (repeat' (first | exact True.intro | rfl | assumption | exact tn_ok rfl | exact tr_ok rfl | exact fun _ => rfl | (refine And.intro ?_ ?_) | (intro _ _; rfl) | ((conv => whnf); (first | exact True.intro | (refine And.intro ?_ ?_)))))
  intro h
  have h : s.size ≤ 250 := Decidable.byContradiction fun q => by
      have h : (!decide ((s.size : Int) ≤ 250)) = false := h
      rw [decide_eq_false (show ¬ (s.size : Int) ≤ 250 by omega)] at h
      cases h
  have e : cutE w s = (cutR w s, ((undR w s).length : Int), 0) := if_pos h
  rw [e] at hR
  (conv => whnf)
  refine .inl ⟨List Pr × Nat, fun y => [(0, .sl 0 0 2 w.length false), (1, .str s), (7, .sl 1 0 2 y.1.length false), (8, i64 y.2)], fun y => [some (prR w), some (prR y.1)], fun y => w.length - y.2, fun y => y.2 ≤ w.length ∧ y.1 = cutR (w.take y.2) s, 2, ⟨([], 0), [none], ⟨Nat.zero_le _, rfl⟩, ?_⟩, fun _ => rfl, fun ⟨o, i⟩ hi0 => ?_⟩
  · (repeat' (first | exact True.intro | rfl | assumption | exact tn_ok rfl | exact tr_ok rfl | exact fun _ => rfl | (refine And.intro ?_ ?_) | (intro _ _; rfl) | ((conv => whnf); (first | exact True.intro | (refine And.intro ?_ ?_)))))
  have hi : i ≤ w.length := hi0.1
  have ho : o = cutR (w.take i) s := hi0.2
  have hol : o.length ≤ w.length := by rw [ho]; exact filt_le _
  clear hi0
  have ei := zero_add_toNat i
  (conv => whnf)
  constructor
  · intro h
    have h : i < w.length := by have : (i : Int) < (w.length : Int) := of_decide_eq_true h; omega
    have hiN : 0 + ((i : Nat) : Int).toNat < w.length := by rw [ei]; exact h
    have hnx : cutR (w.take (i + 1)) s = o ++ (if (!decide (Pre s (w.getD i p00).1)) then [w.getD i p00] else []) := by rw [ho]; exact filt_snoc h _
    (conv => whnf)
    refine ⟨by show (0 : Int) ≤ (i : Int); omega, by show (i : Int) < (w.length : Int); omega, ?_⟩
    (conv => whnf)
    refine ⟨hiN, ?_⟩
    (conv => whnf)
    refine ⟨((w.getD i p00).1, s), [], trivial, rfl, (by
      rw [ei]
      (repeat' (first | exact True.intro | rfl | assumption | exact tn_ok rfl | exact tr_ok rfl | exact fun _ => rfl | (refine And.intro ?_ ?_) | (intro _ _; rfl) | ((conv => whnf); (first | exact True.intro | (refine And.intro ?_ ?_)))))), by (repeat' (first | exact True.intro | rfl | assumption | exact tn_ok rfl | exact tr_ok rfl | exact fun _ => rfl | (refine And.intro ?_ ?_) | (intro _ _; rfl) | ((conv => whnf); (first | exact True.intro | (refine And.intro ?_ ?_))))), ?_⟩
    (conv => whnf)
    constructor
    · intro hp
      have hp : (!decide (Pre s (w.getD i p00).1)) = true := hp
      rw [if_pos hp] at hnx
      (conv => whnf)
      refine ⟨by show (0 : Int) ≤ (i : Int); omega, by show (i : Int) < (w.length : Int); omega, ?_⟩
      (conv => whnf)
      refine ⟨hiN, ?_⟩
      rw [ei]
      (conv => whnf)
      refine ⟨some (fun q => [.str ((o ++ [w.getD i p00]).getD q p00).1, u64 ((o ++ [w.getD i p00]).getD q p00).2]), ?_⟩
      (conv => whnf)
      refine ⟨by decide, by show 0 + o.length ≤ o.length; omega, by show (o.length + 1) * (24 + 2) ≤ 1000000000; omega, fun q hq => pr_push q hq, ?_⟩
      (conv => whnf)
      refine ⟨(o ++ [w.getD i p00], i + 1), [some 3], by show w.length - (i + 1) < w.length - i; omega, ⟨by show i + 1 ≤ w.length; omega, hnx.symm⟩, ?_⟩
      (repeat' (first | exact True.intro | rfl | assumption | exact tn_ok rfl | exact tr_ok rfl | exact fun _ => rfl | (refine And.intro ?_ ?_) | (intro _ _; rfl) | ((conv => whnf); (first | exact True.intro | (refine And.intro ?_ ?_)))))
      all_goals first | exact (wrap_inc h (by omega)).symm | (show (o ++ [w.getD i p00]).length = _; rw [List.length_append]; rfl) | (intro j _; rfl)
    · intro hp
      have hp : ¬ (!decide (Pre s (w.getD i p00).1)) = true := fun q => by have hp : (!decide (Pre s (w.getD i p00).1)) = false := hp; rw [hp] at q; cases q
      rw [if_neg hp, List.append_nil] at hnx
      (conv => whnf)
      refine ⟨(o, i + 1), [some 1], by show w.length - (i + 1) < w.length - i; omega, ⟨by show i + 1 ≤ w.length; omega, hnx.symm⟩, ?_⟩
      (repeat' (first | exact True.intro | rfl | assumption | exact tn_ok rfl | exact tr_ok rfl | exact fun _ => rfl | (refine And.intro ?_ ?_) | (intro _ _; rfl) | ((conv => whnf); (first | exact True.intro | (refine And.intro ?_ ?_)))))
      all_goals first | exact (wrap_inc h (by omega)).symm | (intro j _; rfl)
  · intro h
    have h : ¬ i < w.length := by have : ¬ (i : Int) < (w.length : Int) := of_decide_eq_false h; omega
    rw [List.take_of_length_le (by omega)] at ho
    have hl : IntKind.i64.wrap ((w.length : Int) - (o.length : Int)) = ((undR w s).length : Nat) := by
      have := und_cut w s
      rw [← ho] at this
      rw [wrap_id (by omega) (by omega)]
      omega
    rw [← ho] at hR
    (conv => whnf)
    refine ⟨[some 1], _, _, hR, ?_⟩
    (repeat' (first | exact True.intro | rfl | assumption | exact tn_ok rfl | exact tr_ok rfl | exact fun _ => rfl | (refine And.intro ?_ ?_) | (intro _ _; rfl) | ((conv => whnf); (first | exact True.intro | (refine And.intro ?_ ?_)))))
    all_goals exact hl.symm
theorem maxL_snoc : ∀ {w : List Pr} {x : Pr} {s : Bs} {a : Int}, maxL (w ++ [x]) s a = (if Pre x.1 s then (if maxL w s a < x.2 then x.2 else maxL w s a) else maxL w s a)
  | [], _, _, _ => rfl
  | y :: w, x, s, a => by
    rw [List.cons_append]
    unfold maxL
    rw [maxL_snoc]
theorem maxE_snoc {w : List Pr} {s : Bs} {i : Nat} (h : i < w.length) : maxE (w.take (i + 1)) s = if Pre (w.getD i p00).1 s ∧ s.size ≤ 250 then mmI false (maxE (w.take i) s) (w.getD i p00).2 else maxE (w.take i) s := by
  rw [take_snoc h]
  have mm : ∀ a b : Int, mmI false a b = if a < b then b else a := fun a b => by
    unfold mmI
    rw [if_neg (by decide)]
  unfold maxE
  by_cases q : s.size ≤ 250
  · simp only [if_pos q]
    rw [maxL_snoc]
    by_cases g : Pre (w.getD i p00).1 s
    · rw [if_pos g, if_pos (show _ ∧ _ from ⟨g, q⟩), mm]
    · rw [if_neg g, if_neg (fun k => g k.1)]
  · simp only [if_neg q]
    rw [if_neg (fun k => q k.2)]
def SRMax : LSpec where
  X := List Pr × Bs
  k := 1
  pre x := x.1.length ≤ 1000000
  args x θ := [.sl (θ 0) 0 2 x.1.length false, .str x.2]
  objs x _ := [prR x.1]
  out x _ R := R (u64 (maxE x.1 x.2)) [some (prR x.1)]
theorem SRMax_nt : SRMax.Nt := ⟨fun _ _ => rfl, fun _ _ => rfl, fun _ _ _ h => h⟩
theorem SRMax_ok : SRMax.Ok Try.prog 53 := by
  refine LSpec.of_body noGo mixed conHas Try.func53 rfl (by kernel_rfl) fun ⟨w, s⟩ R hlen hR => ?_
  have hlen : w.length ≤ 1000000 := hlen
  have hR : R (u64 (maxE w s)) [some (prR w)] := hR
  show bodyP _ _ _ _ _ [.sl 0 0 2 w.length false, .str s] ⟨1, Tr.ofL 0 [prR w] .leaf⟩ _
  (conv => whnf)
  refine .inl ⟨Nat, fun i => [(0, .sl 0 0 2 w.length false), (1, .str s), (5, u64 (maxE (w.take i) s)), (6, i64 i)], fun i => [some (prR w)], fun i => w.length - i, fun i => i ≤ w.length, 1, ⟨0, [], Nat.zero_le _, ?_⟩, fun _ => rfl, fun i hi0 => ?_⟩
  · (repeat' (first | exact True.intro | rfl | assumption | exact tn_ok rfl | exact tr_ok rfl | exact fun _ => rfl | (refine And.intro ?_ ?_) | (intro _ _; rfl) | ((conv => whnf); (first | exact True.intro | (refine And.intro ?_ ?_)))))
    all_goals (show maxE [] s = 0; unfold maxE; split <;> rfl)
  have hi : i ≤ w.length := hi0
  clear hi0
  have ei := zero_add_toNat i
  (conv => whnf)
  constructor
  · intro h
    have h : i < w.length := by have : (i : Int) < (w.length : Int) := of_decide_eq_true h; omega
    have hiN : 0 + ((i : Nat) : Int).toNat < w.length := by rw [ei]; exact h
    (conv => whnf)
    refine ⟨by show (0 : Int) ≤ (i : Int); omega, by show (i : Int) < (w.length : Int); omega, ?_⟩
    (conv => whnf)
    refine ⟨hiN, ?_⟩
    (conv => whnf)
    refine ⟨(s, (w.getD i p00).1), [], trivial, rfl, (by
      rw [ei]
      (repeat' (first | exact True.intro | rfl | assumption | exact tn_ok rfl | exact tr_ok rfl | exact fun _ => rfl | (refine And.intro ?_ ?_) | (intro _ _; rfl) | ((conv => whnf); (first | exact True.intro | (refine And.intro ?_ ?_)))))), by (repeat' (first | exact True.intro | rfl | assumption | exact tn_ok rfl | exact tr_ok rfl | exact fun _ => rfl | (refine And.intro ?_ ?_) | (intro _ _; rfl) | ((conv => whnf); (first | exact True.intro | (refine And.intro ?_ ?_))))), ?_⟩
    have hnx := maxE_snoc (s := s) h
    (conv => whnf)
    constructor
    · intro hp
      have hp : Pre (w.getD i p00).1 s := of_decide_eq_true hp
      (conv => whnf)
      constructor
      · intro h2
        have h2 : s.size ≤ 250 := by have : (s.size : Int) ≤ 250 := of_decide_eq_true h2; omega
        rw [if_pos ⟨hp, h2⟩] at hnx
        (conv => whnf)
        refine ⟨by show (0 : Int) ≤ (i : Int); omega, by show (i : Int) < (w.length : Int); omega, ?_⟩
        (conv => whnf)
        refine ⟨hiN, ?_⟩
        rw [ei]
        (conv => whnf)
        refine ⟨i + 1, [], by show w.length - (i + 1) < w.length - i; omega, by show i + 1 ≤ w.length; omega, ?_⟩
        (repeat' (first | exact True.intro | rfl | assumption | exact tn_ok rfl | exact tr_ok rfl | exact fun _ => rfl | (refine And.intro ?_ ?_) | (intro _ _; rfl) | ((conv => whnf); (first | exact True.intro | (refine And.intro ?_ ?_)))))
        all_goals first | exact (wrap_inc h (by omega)).symm | exact hnx
      · intro h2
        have h2 : ¬ s.size ≤ 250 := by have : ¬ (s.size : Int) ≤ 250 := of_decide_eq_false h2; omega
        rw [if_neg (fun k => h2 k.2)] at hnx
        (conv => whnf)
        refine ⟨i + 1, [], by show w.length - (i + 1) < w.length - i; omega, by show i + 1 ≤ w.length; omega, ?_⟩
        (repeat' (first | exact True.intro | rfl | assumption | exact tn_ok rfl | exact tr_ok rfl | exact fun _ => rfl | (refine And.intro ?_ ?_) | (intro _ _; rfl) | ((conv => whnf); (first | exact True.intro | (refine And.intro ?_ ?_)))))
        all_goals first | exact (wrap_inc h (by omega)).symm | exact hnx
    · intro hp
      have hp : ¬ Pre (w.getD i p00).1 s := of_decide_eq_false hp
      rw [if_neg (fun k => hp k.1)] at hnx
      (conv => whnf)
      refine ⟨i + 1, [], by show w.length - (i + 1) < w.length - i; omega, by show i + 1 ≤ w.length; omega, ?_⟩
      (repeat' (first | exact True.intro | rfl | assumption | exact tn_ok rfl | exact tr_ok rfl | exact fun _ => rfl | (refine And.intro ?_ ?_) | (intro _ _; rfl) | ((conv => whnf); (first | exact True.intro | (refine And.intro ?_ ?_)))))
      all_goals first | exact (wrap_inc h (by omega)).symm | exact hnx
  · intro h
    have h : ¬ i < w.length := by have : ¬ (i : Int) < (w.length : Int) := of_decide_eq_false h; omega
    have ho : maxE (w.take i) s = maxE w s := by rw [List.take_of_length_le (by omega)]
    rw [← ho] at hR
    (conv => whnf)
    refine ⟨[], _, _, hR, ?_⟩
    (repeat' (first | exact True.intro | rfl | assumption | exact tn_ok rfl | exact tr_ok rfl | exact fun _ => rfl | (refine And.intro ?_ ?_) | (intro _ _; rfl) | ((conv => whnf); (first | exact True.intro | (refine And.intro ?_ ?_)))))
end Go.Proofs.Ytagpkejbbmpcgaa
