/- What the functions of tagcacheref11 compute: the rest. -/
import Derived.Test.YtollflfkgcgdkaaRcRef
namespace Go.Proofs.Ytollflfkgcgdkaa
open Go Sy
set_option maxRecDepth 100000

theorem atI_lt {l : List Int} {n : Int} (h : ¬ n ∈ l) : atI l n 0 < 0 := by
  have := mt (atI_ge (l := l) (n := n) (Int.le_refl 0)).1 h
  omega
theorem atI_nlt {l : List Int} {n : Int} (h : n ∈ l) : ¬ atI l n 0 < 0 := by
  have := (atI_ge (l := l) (n := n) (Int.le_refl 0)).2 h
  omega
def SRemove : LSpec where
  X := List Int × Int × Bool
  k := 1
  pre x := x.1.length < 100000
  args x θ := [slI (θ 0) x.1 x.2.2, i64 x.2.1]
  objs x _ := [rowO x.1]
  out x θ R := (remE x.1 x.2.1 = 0 → R (.tup [slI (θ 1) (wo x.1 x.2.1) false, i64 0]) [some (rowO x.1), some (rowO (wo x.1 x.2.1))]) ∧ (remE x.1 x.2.1 ≠ 0 → R (.tup [slI (θ 0) x.1 x.2.2, i64 (remE x.1 x.2.1)]) [some (rowO x.1)])
theorem SRemove_nt : SRemove.Nt := ⟨fun _ _ => rfl, fun _ _ => rfl, fun _ _ _ h => h⟩
theorem SRemove_ok : SRemove.Ok Try.prog 31 := by
  refine LSpec.of_body noGo mixed con1 Try.func31 rfl (by kernel_rfl) fun ⟨l, n, full⟩ R hp ⟨hR0, hR1⟩ => ?_
  have hp : l.length < 100000 := hp
  (conv => whnf)
  refine ⟨n, [], trivial, rfl, ⟨⟨rfl, rfl⟩, trivial⟩, trivial, ?_⟩
  (conv => whnf)
  constructor
  · intro h
    have h : ¬ slot n := by simpa using h
    have e : remE l n = 2 := if_pos h
    (conv => whnf)
    refine ⟨[], _, _, hR1 (by show remE l n ≠ 0; omega), ?_⟩
    (repeat' (first | exact True.intro | rfl | assumption | (refine And.intro ?_ ?_) | (intro _ _; rfl) | ((conv => whnf); (first | exact True.intro | (refine And.intro ?_ ?_)))))
  · intro h
    have h : slot n := by simpa using h
    (conv => whnf)
    refine ⟨(l, n, full), [0], by show l.length < 1000000000; omega, rfl, ?_, ?_, ?_⟩
    · (repeat' (first | exact True.intro | rfl | assumption | (refine And.intro ?_ ?_) | (intro _ _; rfl) | ((conv => whnf); (first | exact True.intro | (refine And.intro ?_ ?_)))))
    · (repeat' (first | exact True.intro | rfl | assumption | (refine And.intro ?_ ?_) | (intro _ _; rfl) | ((conv => whnf); (first | exact True.intro | (refine And.intro ?_ ?_)))))
    (conv => whnf)
    constructor
    · intro h2
      have h2 : ¬ n ∈ l := fun g => atI_nlt g (by simpa using h2)
      have e : remE l n = 9 := by unfold remE; rw [if_neg (by simpa using h), if_pos h2]
      (conv => whnf)
      refine ⟨[], _, _, hR1 (by show remE l n ≠ 0; omega), ?_⟩
      (repeat' (first | exact True.intro | rfl | assumption | (refine And.intro ?_ ?_) | (intro _ _; rfl) | ((conv => whnf); (first | exact True.intro | (refine And.intro ?_ ?_)))))
    · intro h2
      have h2 : n ∈ l := Decidable.byContradiction fun g => by have := atI_lt g; simp at h2; omega
      have e : remE l n = 0 := by unfold remE; rw [if_neg (by simpa using h), if_neg (by simpa using h2)]
      (conv => whnf)
      refine ⟨(l, n, full), [0], by show l.length < 1000000; omega, rfl, ?_, ?_, ?_⟩
      · (repeat' (first | exact True.intro | rfl | assumption | (refine And.intro ?_ ?_) | (intro _ _; rfl) | ((conv => whnf); (first | exact True.intro | (refine And.intro ?_ ?_)))))
      · (repeat' (first | exact True.intro | rfl | assumption | (refine And.intro ?_ ?_) | (intro _ _; rfl) | ((conv => whnf); (first | exact True.intro | (refine And.intro ?_ ?_)))))
      (conv => whnf)
      refine ⟨[some 1], _, _, hR0 e, ?_⟩
      (repeat' (first | exact True.intro | rfl | assumption | (refine And.intro ?_ ?_) | (intro _ _; rfl) | ((conv => whnf); (first | exact True.intro | (refine And.intro ?_ ?_)))))
theorem con2 : ConOk Try.prog (conOf [(9, SSlot.T), (34, SAt.T), (31, SRemove.T)]) :=
  conOf_cons (LSpec.call SSlot_nt SSlot_ok) (conOf_cons (LSpec.call SAt_nt SAt_ok) (conOf_cons (LSpec.call SRemove_nt SRemove_ok) conOf_nil))

def SUse : LSpec where
  X := List Int × Int × Bool
  k := 1
  pre x := x.1.length < 100000
  args x θ := [slI (θ 0) x.1 x.2.2, i64 x.2.1]
  objs x _ := [rowO x.1]
  out x θ R := (remE x.1 x.2.1 = 0 → R (.tup [slI (θ 1) (wo x.1 x.2.1 ++ [x.2.1]) false, i64 0]) [some (rowO x.1), some (rowO (wo x.1 x.2.1 ++ [x.2.1]))]) ∧ (remE x.1 x.2.1 ≠ 0 → R (.tup [slI (θ 0) x.1 x.2.2, i64 (remE x.1 x.2.1)]) [some (rowO x.1)])
theorem SUse_nt : SUse.Nt := ⟨fun _ _ => rfl, fun _ _ => rfl, fun _ _ _ h => h⟩
theorem SUse_ok : SUse.Ok Try.prog 30 := by
  refine LSpec.of_body noGo mixed con2 Try.func30 rfl (by kernel_rfl) fun ⟨l, n, full⟩ R hp ⟨hR0, hR1⟩ => ?_
  have hp : l.length < 100000 := hp
  (conv => whnf)
  refine ⟨(l, n, full), [0], by show l.length < 100000; omega, rfl, ?_, ?_, ?_⟩
  · (repeat' (first | exact True.intro | rfl | assumption | (refine And.intro ?_ ?_) | (intro _ _; rfl) | ((conv => whnf); (first | exact True.intro | (refine And.intro ?_ ?_)))))
  · (repeat' (first | exact True.intro | rfl | assumption | (refine And.intro ?_ ?_) | (intro _ _; rfl) | ((conv => whnf); (first | exact True.intro | (refine And.intro ?_ ?_)))))
  (conv => whnf)
  constructor
  · intro e
    have hw := wo_length l n
    (conv => whnf)
    refine ⟨fun h => absurd h (by decide), fun _ => ?_⟩
    (conv => whnf)
    refine ⟨some (rowI (wo l n ++ [n])), ?_⟩
    (conv => whnf)
    refine ⟨by simp, by simp, app_small (by show (wo l n).length ≤ 1000000; omega), fun q hq => rowI_push _ _ q hq, ?_⟩
    (conv => whnf)
    refine ⟨[some 3], _, _, hR0 e, ?_⟩
    (repeat' (first | exact True.intro | rfl | assumption | (refine And.intro ?_ ?_) | (intro _ _; rfl) | ((conv => whnf); (first | exact True.intro | (refine And.intro ?_ ?_)))))
    all_goals simp
  · intro e
    (conv => whnf)
    constructor
    · intro h
      (conv => whnf)
      refine ⟨[], _, _, hR1 e, ?_⟩
      (repeat' (first | exact True.intro | rfl | assumption | (refine And.intro ?_ ?_) | (intro _ _; rfl) | ((conv => whnf); (first | exact True.intro | (refine And.intro ?_ ?_)))))
    · intro h
      exact absurd (by simpa using h) e

def nextE (l : List Int) (n : Int) : Int := if ¬ slot n then 2 else if n ∉ l then 9 else if atI l n 0 = (l.length : Int) - 1 then 16 else 0
def nextV (l : List Int) (n : Int) : Int := if nextE l n = 0 then l.getD (atI l n 0 + 1).toNat 0 else 0
def SNext : LSpec where
  X := List Int × Int × Bool
  k := 1
  pre x := x.1.length < 100000
  args x θ := [slI (θ 0) x.1 x.2.2, i64 x.2.1]
  objs x _ := [rowO x.1]
  out x _ R := R (.tup [i64 (nextV x.1 x.2.1), i64 (nextE x.1 x.2.1)]) [some (rowO x.1)]
theorem SNext_nt : SNext.Nt := ⟨fun _ _ => rfl, fun _ _ => rfl, fun _ _ _ h => h⟩
theorem SNext_ok : SNext.Ok Try.prog 32 := by
  refine LSpec.of_body noGo mixed con2 Try.func32 rfl (by kernel_rfl) fun ⟨l, n, full⟩ R hp hR => ?_
  have hp : l.length < 100000 := hp
  (conv => whnf)
  refine ⟨n, [], trivial, rfl, ⟨⟨rfl, rfl⟩, trivial⟩, trivial, ?_⟩
  (conv => whnf)
  constructor
  · intro h
    have h : ¬ slot n := by simpa using h
    have e : nextE l n = 2 := if_pos h
    have e2 : nextV l n = 0 := by unfold nextV; rw [if_neg (by omega)]
    (conv => whnf)
    refine ⟨[], _, _, hR, ?_⟩
    (repeat' (first | exact True.intro | rfl | assumption | (refine And.intro ?_ ?_) | (intro _ _; rfl) | ((conv => whnf); (first | exact True.intro | (refine And.intro ?_ ?_)))))
  · intro h
    have h : slot n := by simpa using h
    (conv => whnf)
    refine ⟨(l, n, full), [0], by show l.length < 1000000000; omega, rfl, ?_, ?_, ?_⟩
    · (repeat' (first | exact True.intro | rfl | assumption | (refine And.intro ?_ ?_) | (intro _ _; rfl) | ((conv => whnf); (first | exact True.intro | (refine And.intro ?_ ?_)))))
    · (repeat' (first | exact True.intro | rfl | assumption | (refine And.intro ?_ ?_) | (intro _ _; rfl) | ((conv => whnf); (first | exact True.intro | (refine And.intro ?_ ?_)))))
    (conv => whnf)
    constructor
    · intro h2
      have h2 : ¬ n ∈ l := fun g => atI_nlt g (by simpa using h2)
      have e : nextE l n = 9 := by unfold nextE; rw [if_neg (by simpa using h), if_pos h2]
      have e2 : nextV l n = 0 := by unfold nextV; rw [if_neg (by omega)]
      (conv => whnf)
      refine ⟨[], _, _, hR, ?_⟩
      (repeat' (first | exact True.intro | rfl | assumption | (refine And.intro ?_ ?_) | (intro _ _; rfl) | ((conv => whnf); (first | exact True.intro | (refine And.intro ?_ ?_)))))
    · intro h2
      have h2 : n ∈ l := Decidable.byContradiction fun g => by have := atI_lt g; simp at h2; omega
      obtain ⟨k, hk, hkl, _, _⟩ := atI_at (i := 0) h2
      have hw : IntKind.i64.wrap ((l.length : Int) - 1) = (l.length : Int) - 1 := wrap_id (by omega) (by omega)
      (conv => whnf)
      constructor
      · intro h3
        have h3 : atI l n 0 = (l.length : Int) - 1 := by rw [← hw]; simpa using h3
        have e : nextE l n = 16 := by unfold nextE; rw [if_neg (by simpa using h), if_neg (by simpa using h2), if_pos h3]
        have e2 : nextV l n = 0 := by unfold nextV; rw [if_neg (by omega)]
        (conv => whnf)
        refine ⟨[], _, _, hR, ?_⟩
        (repeat' (first | exact True.intro | rfl | assumption | (refine And.intro ?_ ?_) | (intro _ _; rfl) | ((conv => whnf); (first | exact True.intro | (refine And.intro ?_ ?_)))))
      · intro h3
        have h3 : ¬ atI l n 0 = (l.length : Int) - 1 := by rw [← hw]; simpa using h3
        have e : nextE l n = 0 := by unfold nextE; rw [if_neg (by simpa using h), if_neg (by simpa using h2), if_neg h3]
        have e2 : nextV l n = l.getD (atI l n 0 + 1).toNat 0 := by unfold nextV; rw [if_pos (by omega)]
        have hw2 : IntKind.i64.wrap (atI l n 0 + 1) = atI l n 0 + 1 := wrap_id (by omega) (by omega)
        (conv => whnf)
        refine ⟨?_, ?_, ?_, ?_⟩
        · rw [hw2]; omega
        · rw [hw2]; show atI l n 0 + 1 < (l.length : Int); omega
        · show 0 + (IntKind.wrap .i64 (atI l n 0 + 1)).toNat < l.length
          rw [hw2]; omega
        (conv => whnf)
        refine ⟨[], _, _, hR, ?_⟩
        (repeat' (first | exact True.intro | rfl | assumption | (refine And.intro ?_ ?_) | (intro _ _; rfl) | ((conv => whnf); (first | exact True.intro | (refine And.intro ?_ ?_)))))
        show nextV l n = l.getD (0 + (IntKind.wrap .i64 (atI l n 0 + 1)).toNat) 0
        rw [e2, hw2, Nat.zero_add]

def oldV (l : List Int) : Int := l.getD 0 0
def oldE (l : List Int) : Int := if l.length = 0 then 9 else 0
def SOldest : LSpec where
  X := List Int × Bool
  k := 1
  pre x := x.1.length < 100000
  args x θ := [slI (θ 0) x.1 x.2]
  objs x _ := [rowO x.1]
  out x _ R := R (.tup [i64 (oldV x.1), i64 (oldE x.1)]) [some (rowO x.1)]
theorem SOldest_nt : SOldest.Nt := ⟨fun _ _ => rfl, fun _ _ => rfl, fun _ _ _ h => h⟩
theorem SOldest_ok : SOldest.Ok Try.prog 33 := by
  refine LSpec.of_body noGo mixed conOf_nil Try.func33 rfl (by kernel_rfl) fun ⟨l, full⟩ R hp hR => ?_
  have hp : l.length < 100000 := hp
  (conv => whnf)
  constructor
  · intro h
    have h : l.length = 0 := by have : (l.length : Int) = 0 := by simpa using h
                                omega
    have e : oldE l = 9 := if_pos h
    have e2 : oldV l = 0 := by rw [List.eq_nil_of_length_eq_zero h]; rfl
    (conv => whnf)
    refine ⟨[], _, _, hR, ?_⟩
    (repeat' (first | exact True.intro | rfl | assumption | (refine And.intro ?_ ?_) | (intro _ _; rfl) | ((conv => whnf); (first | exact True.intro | (refine And.intro ?_ ?_)))))
  · intro h
    have h : ¬ l.length = 0 := fun g => by simp [g] at h
    have e : oldE l = 0 := if_neg h
    (conv => whnf)
    refine ⟨by decide, by show (0 : Int) < (l.length : Int); omega, by show 0 + (0 : Int).toNat < l.length; simp; omega, ?_⟩
    (conv => whnf)
    refine ⟨[], _, _, hR, ?_⟩
    (repeat' (first | exact True.intro | rfl | assumption | (refine And.intro ?_ ?_) | (intro _ _; rfl) | ((conv => whnf); (first | exact True.intro | (refine And.intro ?_ ?_)))))

def SSame : LSpec where
  X := (List Int × Bool) × (List Int × Bool)
  k := 2
  pre x := x.1.1.length < 1000000000
  args x θ := [slI (θ 0) x.1.1 x.1.2, slI (θ 1) x.2.1 x.2.2]
  objs x _ := [rowO x.1.1, rowO x.2.1]
  out x _ R := R (.sb (decide (x.1.1 = x.2.1))) [some (rowO x.1.1), some (rowO x.2.1)]
theorem SSame_nt : SSame.Nt := ⟨fun _ _ => rfl, fun _ _ => rfl, fun _ _ _ h => h⟩
theorem SSame_ok : SSame.Ok Try.prog 28 := by
  refine LSpec.of_body noGo mixed conOf_nil Try.func28 rfl (by kernel_rfl) fun ⟨⟨l, fl⟩, m, fm⟩ R hp hR => ?_
  have hp : l.length < 1000000000 := hp
  (conv => whnf)
  constructor
  · intro h
    have h : ¬ l = m := fun e => by subst e; simp at h
    have e : decide (l = m) = false := decide_eq_false h
    (conv => whnf)
    refine ⟨[], _, _, hR, ?_⟩
    (repeat' (first | exact True.intro | rfl | assumption | (refine And.intro ?_ ?_) | (intro _ _; rfl) | ((conv => whnf); (first | exact True.intro | (refine And.intro ?_ ?_)))))
  · intro h
    have hlen : l.length = m.length := by have : (l.length : Int) = m.length := by simpa using h
                                          omega
    (conv => whnf)
    refine .inl ⟨Nat, fun i => [(0, slI 0 l fl), (1, slI 1 m fm), (4, .bool false), (5, i64 i)], fun _ => [some (rowO l), some (rowO m)], fun i => l.length - i, fun i => i ≤ l.length ∧ l.take i = m.take i, 2, ⟨0, [], ?_, ?_⟩, fun _ => rfl, fun i ⟨hi, hat⟩ => ?_⟩
    · simp
    · (repeat' (first | exact True.intro | rfl | assumption | (refine And.intro ?_ ?_) | (intro _ _; rfl) | ((conv => whnf); (first | exact True.intro | (refine And.intro ?_ ?_)))))
    (conv => whnf)
    constructor
    · intro h
      (conv => whnf)
      have hi2 := dec_lt h
      refine ⟨by simp, by simpa using h, by simpa using h, ?_⟩
      (conv => whnf)
      refine ⟨by simp, by show (i : Int) < (m.length : Int); omega, by show 0 + (i : Int).toNat < m.length; simp; omega, ?_⟩
      (conv => whnf)
      have e1 := getD_nat l i
      have e2 := getD_nat m i
      constructor
      · intro h2
        have h2 : ¬ l.getD i 0 = m.getD i 0 := by rw [← e1, ← e2]; simpa using h2
        have h3 : ¬ l = m := fun e => h2 (by rw [e])
        have e : decide (l = m) = false := decide_eq_false h3
        (conv => whnf)
        refine ⟨[], _, _, hR, ?_⟩
        (repeat' (first | exact True.intro | rfl | assumption | (refine And.intro ?_ ?_) | (intro _ _; rfl) | ((conv => whnf); (first | exact True.intro | (refine And.intro ?_ ?_)))))
      · intro h2
        have h2 : l.getD i 0 = m.getD i 0 := by rw [← e1, ← e2]; simpa using h2
        (conv => whnf)
        refine ⟨i + 1, [], by show l.length - (i + 1) < l.length - i; omega, ⟨by omega, ?_⟩, ?_⟩
        · have hi3 : i < m.length := by omega
          rw [List.take_succ_eq_append_getElem hi2, List.take_succ_eq_append_getElem hi3, hat]
          simp [hi2, hi3] at h2
          rw [h2]
        · (repeat' (first | exact True.intro | rfl | assumption | (refine And.intro ?_ ?_) | (intro _ _; rfl) | ((conv => whnf); (first | exact True.intro | (refine And.intro ?_ ?_)))))
          exact (wrap_inc hi2 hp).symm
    · intro h
      (conv => whnf)
      have hi2 : i = l.length := by have := dec_ge h; omega
      have h3 : l = m := by
        rw [hi2, List.take_length, hlen, List.take_length] at hat
        exact hat
      have e : decide (l = m) = true := decide_eq_true h3
      refine ⟨[], _, _, hR, ?_⟩
      (repeat' (first | exact True.intro | rfl | assumption | (refine And.intro ?_ ?_) | (intro _ _; rfl) | ((conv => whnf); (first | exact True.intro | (refine And.intro ?_ ?_)))))
end Go.Proofs.Ytollflfkgcgdkaa
