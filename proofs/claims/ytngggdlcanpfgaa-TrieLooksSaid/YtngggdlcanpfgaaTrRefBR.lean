/- What the reference of the trie computes: Cut, Max, Longest. -/
import Derived.Test.YtngggdlcanpfgaaTrRefR
namespace Go.Proofs.Ytngggdlcanpfgaa
open Go Go.RowKit Sy Ti
set_option maxRecDepth 100000
set_option maxHeartbeats 4000000

def cutE (m : List Pr) (p : Bs) : List Pr × Int × Int := if p.size ≤ 250 then (cutR m p, ((undR m p).length : Nat), 0) else (m, 0, 2)
theorem maxL_snoc : ∀ {w : List Pr} {x : Pr} {s : Bs} {a : Int}, maxL (w ++ [x]) s a = (if Pre x.1 s then (if maxL w s a < x.2 then x.2 else maxL w s a) else maxL w s a)
  | [], _, _, _ => rfl
  | y :: w, x, s, a => by
    rw [List.cons_append]
    unfold maxL
    rw [maxL_snoc]
theorem lonL_snoc : ∀ {w : List Pr} {x : Pr} {s : Bs} {a : Bs × Int}, lonL (w ++ [x]) s a = (if Pre x.1 s ∧ ((lonL w s a).2 ≠ 0 ∨ (lonL w s a).1.size < x.1.size) then (x.1, 0) else lonL w s a)
  | [], _, _, _ => rfl
  | y :: w, x, s, a => by
    rw [List.cons_append]
    unfold lonL
    rw [lonL_snoc]
theorem maxE_snoc {w : List Pr} {s : Bs} {i : Nat} (h : i < w.length) : maxE (w.take (i + 1)) s = if Pre (w.getD i p00).1 s ∧ s.size ≤ 250 then mmI false (maxE (w.take i) s) (w.getD i p00).2 else maxE (w.take i) s := by
  rw [take_snoc h]
  have mm : ∀ a b : Int, mmI false a b = if a < b then b else a := fun a b => by
    unfold mmI
    rw [if_neg (by decide)]
  unfold maxE
  by_cases q : s.size ≤ 250
  · simp only [if_pos q]
    rw [maxL_snoc]
    by_cases g : Pre (w.getD i p00).1 s
    · rw [if_pos g, if_pos (show _ ∧ _ from ⟨g, q⟩), mm]
    · rw [if_neg g, if_neg (fun k => g k.1)]
  · simp only [if_neg q]
    rw [if_neg (fun k => q k.2)]
def SRMax : LSpec where
  X := List Pr × Bs
  k := 1
  pre x := x.1.length ≤ 1000000
  args x θ := [.sl (θ 0) 0 2 x.1.length false, .str x.2]
  objs x _ := [prR x.1]
  out x _ R := R (u64 (maxE x.1 x.2)) [some (prR x.1)]
theorem SRMax_nt : SRMax.Nt := ⟨fun _ _ => rfl, fun _ _ => rfl, fun _ _ _ h => h⟩
theorem SRMax_ok : SRMax.Ok Try.prog 36 := by
  refine LSpec.of_body noGo mixed conHas Try.func36 rfl (by kernel_rfl) fun ⟨w, s⟩ R hlen hR => ?_
  have hlen : w.length ≤ 1000000 := hlen
  have hR : R (u64 (maxE w s)) [some (prR w)] := hR
  show bodyP _ _ _ _ _ [.sl 0 0 2 w.length false, .str s] ⟨1, Tr.ofL 0 [prR w] .leaf⟩ _
  (conv => whnf)
  refine .inl ⟨Nat, fun i => [(0, .sl 0 0 2 w.length false), (1, .str s), (5, u64 (maxE (w.take i) s)), (6, i64 i)], fun i => [some (prR w)], fun i => w.length - i, fun i => i ≤ w.length, 1, ⟨0, [], Nat.zero_le _, ?_⟩, fun _ => rfl, fun i hi0 => ?_⟩
  · (repeat' (first | exact True.intro | rfl | assumption | exact tn_ok rfl | exact tr_ok rfl | exact fun _ => rfl | (refine And.intro ?_ ?_) | (intro _ _; rfl) | ((conv => whnf); (first | exact True.intro | (refine And.intro ?_ ?_)))))
    all_goals (show maxE [] s = 0; unfold maxE; split <;> rfl)
  have hi : i ≤ w.length := hi0
  clear hi0
  have ei := zero_add_toNat i
  (conv => whnf)
  constructor
  · intro h
    have h : i < w.length := by have : (i : Int) < (w.length : Int) := of_decide_eq_true h; omega
    have hiN : 0 + ((i : Nat) : Int).toNat < w.length := by rw [ei]; exact h
    (conv => whnf)
    refine ⟨by show (0 : Int) ≤ (i : Int); omega, by show (i : Int) < (w.length : Int); omega, ?_⟩
    (conv => whnf)
    refine ⟨hiN, ?_⟩
    (conv => whnf)
    refine ⟨(s, (w.getD i p00).1), [], trivial, rfl, (by
      rw [ei]
      (repeat' (first | exact True.intro | rfl | assumption | exact tn_ok rfl | exact tr_ok rfl | exact fun _ => rfl | (refine And.intro ?_ ?_) | (intro _ _; rfl) | ((conv => whnf); (first | exact True.intro | (refine And.intro ?_ ?_)))))), by (repeat' (first | exact True.intro | rfl | assumption | exact tn_ok rfl | exact tr_ok rfl | exact fun _ => rfl | (refine And.intro ?_ ?_) | (intro _ _; rfl) | ((conv => whnf); (first | exact True.intro | (refine And.intro ?_ ?_))))), ?_⟩
    have hnx := maxE_snoc (s := s) h
    (conv => whnf)
    constructor
    · intro hp
      have hp : Pre (w.getD i p00).1 s := of_decide_eq_true hp
      (conv => whnf)
      constructor
      · intro h2
        have h2 : s.size ≤ 250 := by have : (s.size : Int) ≤ 250 := of_decide_eq_true h2; omega
        rw [if_pos ⟨hp, h2⟩] at hnx
        (conv => whnf)
        refine ⟨by show (0 : Int) ≤ (i : Int); omega, by show (i : Int) < (w.length : Int); omega, ?_⟩
        (conv => whnf)
        refine ⟨hiN, ?_⟩
        rw [ei]
        (conv => whnf)
        refine ⟨i + 1, [], by show w.length - (i + 1) < w.length - i; omega, by show i + 1 ≤ w.length; omega, ?_⟩
        (repeat' (first | exact True.intro | rfl | assumption | exact tn_ok rfl | exact tr_ok rfl | exact fun _ => rfl | (refine And.intro ?_ ?_) | (intro _ _; rfl) | ((conv => whnf); (first | exact True.intro | (refine And.intro ?_ ?_)))))
        all_goals first | exact (wrap_inc h (by omega)).symm | exact hnx
      · intro h2
        have h2 : ¬ s.size ≤ 250 := by have : ¬ (s.size : Int) ≤ 250 := of_decide_eq_false h2; omega
        rw [if_neg (fun k => h2 k.2)] at hnx
        (conv => whnf)
        refine ⟨i + 1, [], by show w.length - (i + 1) < w.length - i; omega, by show i + 1 ≤ w.length; omega, ?_⟩
        (repeat' (first | exact True.intro | rfl | assumption | exact tn_ok rfl | exact tr_ok rfl | exact fun _ => rfl | (refine And.intro ?_ ?_) | (intro _ _; rfl) | ((conv => whnf); (first | exact True.intro | (refine And.intro ?_ ?_)))))
        all_goals first | exact (wrap_inc h (by omega)).symm | exact hnx
    · intro hp
      have hp : ¬ Pre (w.getD i p00).1 s := of_decide_eq_false hp
      rw [if_neg (fun k => hp k.1)] at hnx
      (conv => whnf)
      refine ⟨i + 1, [], by show w.length - (i + 1) < w.length - i; omega, by show i + 1 ≤ w.length; omega, ?_⟩
      (repeat' (first | exact True.intro | rfl | assumption | exact tn_ok rfl | exact tr_ok rfl | exact fun _ => rfl | (refine And.intro ?_ ?_) | (intro _ _; rfl) | ((conv => whnf); (first | exact True.intro | (refine And.intro ?_ ?_)))))
      all_goals first | exact (wrap_inc h (by omega)).symm | exact hnx
  · intro h
    have h : ¬ i < w.length := by have : ¬ (i : Int) < (w.length : Int) := of_decide_eq_false h; omega
    have ho : maxE (w.take i) s = maxE w s := by rw [List.take_of_length_le (by omega)]
    rw [← ho] at hR
    (conv => whnf)
    refine ⟨[], _, _, hR, ?_⟩
    (repeat' (first | exact True.intro | rfl | assumption | exact tn_ok rfl | exact tr_ok rfl | exact fun _ => rfl | (refine And.intro ?_ ?_) | (intro _ _; rfl) | ((conv => whnf); (first | exact True.intro | (refine And.intro ?_ ?_)))))
def SRLongest : LSpec where
  X := List Pr × Bs
  k := 1
  pre x := x.1.length ≤ 1000000
  args x θ := [.sl (θ 0) 0 2 x.1.length false, .str x.2]
  objs x _ := [prR x.1]
  out x _ R := R (.tup [.str (lonE x.1 x.2).1, i64 (lonE x.1 x.2).2]) [some (prR x.1)]
theorem SRLongest_nt : SRLongest.Nt := ⟨fun _ _ => rfl, fun _ _ => rfl, fun _ _ _ h => h⟩
theorem SRLongest_ok : SRLongest.Ok Try.prog 35 := by
  refine LSpec.of_body noGo mixed conHas Try.func35 rfl (by kernel_rfl) fun ⟨w, s⟩ R hlen hR => ?_
  have hlen : w.length ≤ 1000000 := hlen
  have hR : R (.tup [.str (lonE w s).1, i64 (lonE w s).2]) [some (prR w)] := hR
  show bodyP _ _ _ _ _ [.sl 0 0 2 w.length false, .str s] ⟨1, Tr.ofL 0 [prR w] .leaf⟩ _
  (conv => whnf)
  constructor
  · intro h
    have h : ¬ s.size ≤ 250 := fun q => by
      have h : (!decide ((s.size : Int) ≤ 250)) = true := h
      rw [decide_eq_true (show (s.size : Int) ≤ 250 by omega)] at h
      cases h
    have e : lonE w s = (eS, 2) := if_neg h
    rw [e] at hR
    (conv => whnf)
    refine ⟨[], _, _, hR, ?_⟩
    (repeat' (first | exact True.intro | rfl | assumption | exact tn_ok rfl | exact tr_ok rfl | exact fun _ => rfl | (refine And.intro ?_ ?_) | (intro _ _; rfl) | ((conv => whnf); (first | exact True.intro | (refine And.intro ?_ ?_)))))
  intro h
  have h : s.size ≤ 250 := Decidable.byContradiction fun q => by
      have h : (!decide ((s.size : Int) ≤ 250)) = false := h
      rw [decide_eq_false (show ¬ (s.size : Int) ≤ 250 by omega)] at h
      cases h
  have e : lonE w s = lonL w s (eS, 9) := if_pos h
  rw [e] at hR
  (conv => whnf)
  refine .inl ⟨(Bs × Int) × Nat, fun y => [(0, .sl 0 0 2 w.length false), (1, .str s), (6, .str y.1.1), (7, i64 y.1.2), (8, i64 y.2)], fun _ => [some (prR w)], fun y => w.length - y.2, fun y => y.2 ≤ w.length ∧ y.1 = lonL (w.take y.2) s (eS, 9), 1, ⟨((eS, 9), 0), [], ⟨Nat.zero_le _, rfl⟩, ?_⟩, fun _ => rfl, fun ⟨⟨a, f⟩, i⟩ hi0 => ?_⟩
  · (repeat' (first | exact True.intro | rfl | assumption | exact tn_ok rfl | exact tr_ok rfl | exact fun _ => rfl | (refine And.intro ?_ ?_) | (intro _ _; rfl) | ((conv => whnf); (first | exact True.intro | (refine And.intro ?_ ?_)))))
  have hi : i ≤ w.length := hi0.1
  have ho : (a, f) = lonL (w.take i) s (eS, 9) := hi0.2
  clear hi0
  have ei := zero_add_toNat i
  (conv => whnf)
  constructor
  · intro h
    have h : i < w.length := by have : (i : Int) < (w.length : Int) := of_decide_eq_true h; omega
    have hiN : 0 + ((i : Nat) : Int).toNat < w.length := by rw [ei]; exact h
    have hnx := lonL_snoc (w := w.take i) (x := w.getD i p00) (s := s) (a := (eS, 9))
    rw [← take_snoc h, ← ho] at hnx
    have hb1 : (0 : Int) ≤ (i : Int) ∧ (i : Int) < (w.length : Int) := ⟨by omega, by omega⟩
    have no : ∀ {P : Prop}, ¬ P → (a, f) = lonL (w.take (i + 1)) s (eS, 9) ∨ P → (a, f) = lonL (w.take (i + 1)) s (eS, 9) := fun h1 h2 => h2.resolve_right h1
    (conv => whnf)
    refine ⟨hb1.1, hb1.2, ?_⟩
    (conv => whnf)
    refine ⟨hiN, ?_⟩
    (conv => whnf)
    refine ⟨(s, (w.getD i p00).1), [], trivial, rfl, (by
      rw [ei]
      (repeat' (first | exact True.intro | rfl | assumption | exact tn_ok rfl | exact tr_ok rfl | exact fun _ => rfl | (refine And.intro ?_ ?_) | (intro _ _; rfl) | ((conv => whnf); (first | exact True.intro | (refine And.intro ?_ ?_)))))), by (repeat' (first | exact True.intro | rfl | assumption | exact tn_ok rfl | exact tr_ok rfl | exact fun _ => rfl | (refine And.intro ?_ ?_) | (intro _ _; rfl) | ((conv => whnf); (first | exact True.intro | (refine And.intro ?_ ?_))))), ?_⟩
    (conv => whnf)
    constructor
    · intro hp
      have hp : Pre (w.getD i p00).1 s := of_decide_eq_true hp
      (conv => whnf)
      constructor
      · intro hf
        have hf : f = 0 := by
          have hf : (!decide (f = 0)) = false := hf
          exact of_decide_eq_true (not_f hf)
        (conv => whnf)
        refine ⟨hb1.1, hb1.2, ?_⟩
        (conv => whnf)
        refine ⟨hiN, ?_⟩
        rw [ei]
        (conv => whnf)
        constructor
        · intro hs
          have hs : a.size < (w.getD i p00).1.size := by have : (a.size : Int) < ((w.getD i p00).1.size : Int) := of_decide_eq_true hs; omega
          rw [if_pos ⟨hp, .inr hs⟩] at hnx
          (conv => whnf)
          refine ⟨hb1.1, hb1.2, ?_⟩
          (conv => whnf)
          refine ⟨hiN, ?_⟩
          rw [ei]
          (conv => whnf)
          refine ⟨(((w.getD i p00).1, 0), i + 1), [], by show w.length - (i + 1) < w.length - i; omega, ⟨by show i + 1 ≤ w.length; omega, hnx.symm⟩, ?_⟩
          (repeat' (first | exact True.intro | rfl | assumption | exact tn_ok rfl | exact tr_ok rfl | exact fun _ => rfl | (refine And.intro ?_ ?_) | (intro _ _; rfl) | ((conv => whnf); (first | exact True.intro | (refine And.intro ?_ ?_)))))
          all_goals exact (wrap_inc h (by omega)).symm
        · intro hs
          have hs : ¬ a.size < (w.getD i p00).1.size := by have : ¬ (a.size : Int) < ((w.getD i p00).1.size : Int) := of_decide_eq_false hs; omega
          rw [if_neg (fun k => k.2.elim (fun k => k hf) hs)] at hnx
          (conv => whnf)
          refine ⟨((a, f), i + 1), [], by show w.length - (i + 1) < w.length - i; omega, ⟨by show i + 1 ≤ w.length; omega, hnx.symm⟩, ?_⟩
          (repeat' (first | exact True.intro | rfl | assumption | exact tn_ok rfl | exact tr_ok rfl | exact fun _ => rfl | (refine And.intro ?_ ?_) | (intro _ _; rfl) | ((conv => whnf); (first | exact True.intro | (refine And.intro ?_ ?_)))))
          all_goals exact (wrap_inc h (by omega)).symm
      · intro hf
        have hf : f ≠ 0 := by
          have hf : (!decide (f = 0)) = true := hf
          exact of_decide_eq_false (not_t hf)
        rw [if_pos ⟨hp, .inl hf⟩] at hnx
        (conv => whnf)
        refine ⟨hb1.1, hb1.2, ?_⟩
        (conv => whnf)
        refine ⟨hiN, ?_⟩
        rw [ei]
        (conv => whnf)
        refine ⟨(((w.getD i p00).1, 0), i + 1), [], by show w.length - (i + 1) < w.length - i; omega, ⟨by show i + 1 ≤ w.length; omega, hnx.symm⟩, ?_⟩
        (repeat' (first | exact True.intro | rfl | assumption | exact tn_ok rfl | exact tr_ok rfl | exact fun _ => rfl | (refine And.intro ?_ ?_) | (intro _ _; rfl) | ((conv => whnf); (first | exact True.intro | (refine And.intro ?_ ?_)))))
        all_goals exact (wrap_inc h (by omega)).symm
    · intro hp
      have hp : ¬ Pre (w.getD i p00).1 s := of_decide_eq_false hp
      rw [if_neg (fun k => hp k.1)] at hnx
      (conv => whnf)
      refine ⟨((a, f), i + 1), [], by show w.length - (i + 1) < w.length - i; omega, ⟨by show i + 1 ≤ w.length; omega, hnx.symm⟩, ?_⟩
      (repeat' (first | exact True.intro | rfl | assumption | exact tn_ok rfl | exact tr_ok rfl | exact fun _ => rfl | (refine And.intro ?_ ?_) | (intro _ _; rfl) | ((conv => whnf); (first | exact True.intro | (refine And.intro ?_ ?_)))))
      all_goals exact (wrap_inc h (by omega)).symm
  · intro h
    have h : ¬ i < w.length := by have : ¬ (i : Int) < (w.length : Int) := of_decide_eq_false h; omega
    rw [List.take_of_length_le (by omega)] at ho
    rw [← ho] at hR
    (conv => whnf)
    refine ⟨[], _, _, hR, ?_⟩
    (repeat' (first | exact True.intro | rfl | assumption | exact tn_ok rfl | exact tr_ok rfl | exact fun _ => rfl | (refine And.intro ?_ ?_) | (intro _ _; rfl) | ((conv => whnf); (first | exact True.intro | (refine And.intro ?_ ?_)))))
end Go.Proofs.Ytngggdlcanpfgaa
