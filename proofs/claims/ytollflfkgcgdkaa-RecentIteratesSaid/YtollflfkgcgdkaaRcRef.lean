/- What the functions of tagcacheref11 compute. -/
import Derived.Test.YtollflfkgcgdkaaRcMath
namespace Go.Proofs.Ytollflfkgcgdkaa
open Go Sy
set_option maxRecDepth 100000

def rowO (l : List Int) : SObj := .row l.length (rowI l) 3 1
def slI (i : Nat) (l : List Int) (full : Bool) : V := .sl i 0 1 l.length full
def i64 (n : Int) : V := .int .i64 n
theorem dec_lt {a b : Nat} (h : decide ((a : Int) < (b : Int)) = true) : a < b := by simpa using h
theorem dec_ge {a b : Nat} (h : decide ((a : Int) < (b : Int)) = false) : b ≤ a := by simpa using h
theorem getD_nat (l : List Int) (i : Nat) : l.getD (0 + ((i : Nat) : Int).toNat) 0 = l.getD i 0 := by simp

def atI : List Int → Int → Int → Int
  | [], _, _ => -1
  | x :: l, n, i => if x = n then i else atI l n (i + 1)
theorem atI_step {l : List Int} {n : Int} {i : Nat} (h : i < l.length) : atI (l.drop i) n i = if l.getD i 0 = n then (i : Int) else atI (l.drop (i + 1)) n (i + 1) := by
  rw [List.drop_eq_getElem_cons h]
  simp [atI, h]
theorem wrap_inc {i n : Nat} (h : i < n) (hn : n < 1000000000) : IntKind.i64.wrap ((i : Int) + 1) = ((i + 1 : Nat) : Int) := by
  rw [wrap_id (by omega) (by omega)]; rfl

def SAt : LSpec where
  X := List Int × Int × Bool
  k := 1
  pre x := x.1.length < 1000000000
  args x θ := [slI (θ 0) x.1 x.2.2, i64 x.2.1]
  objs x _ := [rowO x.1]
  out x _ R := R (i64 (atI x.1 x.2.1 0)) [some (rowO x.1)]
theorem SAt_nt : SAt.Nt := ⟨fun _ _ => rfl, fun _ _ => rfl, fun _ _ _ h => h⟩
theorem SAt_ok : SAt.Ok Try.prog 34 := by
  refine LSpec.of_body noGo mixed conOf_nil Try.func34 rfl (by kernel_rfl) fun ⟨l, n, full⟩ R hp hR => ?_
  have hp : l.length < 1000000000 := hp
  (conv => whnf)
  refine .inl ⟨Nat, fun i => [(0, slI 0 l full), (1, i64 n), (4, i64 0), (5, i64 i)], fun _ => [some (rowO l)], fun i => l.length - i, fun i => i ≤ l.length ∧ atI (l.drop i) n i = atI l n 0, 1, ⟨0, [], ?_, ?_⟩, fun _ => rfl, fun i ⟨hi, hat⟩ => ?_⟩
  · simp
  · (repeat' (first | exact True.intro | rfl | assumption | (refine And.intro ?_ ?_) | (intro _ _; rfl) | ((conv => whnf); (first | exact True.intro | (refine And.intro ?_ ?_)))))
  (conv => whnf)
  constructor
  · intro h
    (conv => whnf)
    have hi2 := dec_lt h
    rw [atI_step hi2] at hat
    refine ⟨by simp, by simpa using h, by simpa using h, ?_⟩
    (conv => whnf)
    constructor
    · intro h2
      (conv => whnf)
      rw [if_pos (by simpa using h2)] at hat
      refine ⟨[], _, _, hR, ?_⟩
      (repeat' (first | exact True.intro | rfl | assumption | (refine And.intro ?_ ?_) | (intro _ _; rfl) | ((conv => whnf); (first | exact True.intro | (refine And.intro ?_ ?_)))))
      exact hat.symm
    · intro h2
      (conv => whnf)
      rw [if_neg (by simpa using h2)] at hat
      refine ⟨i + 1, [], by show l.length - (i + 1) < l.length - i; omega, ⟨by omega, hat⟩, ?_⟩
      (repeat' (first | exact True.intro | rfl | assumption | (refine And.intro ?_ ?_) | (intro _ _; rfl) | ((conv => whnf); (first | exact True.intro | (refine And.intro ?_ ?_)))))
      exact (wrap_inc hi2 hp).symm
  · intro h
    (conv => whnf)
    have hi2 : i = l.length := by have := dec_ge h; omega
    refine ⟨[], _, _, hR, ?_⟩
    (repeat' (first | exact True.intro | rfl | assumption | (refine And.intro ?_ ?_) | (intro _ _; rfl) | ((conv => whnf); (first | exact True.intro | (refine And.intro ?_ ?_)))))
    rw [← hat, hi2, List.drop_length]
    rfl

def SWithout : LSpec where
  X := List Int × Int × Bool
  k := 1
  pre x := x.1.length < 1000000
  args x θ := [slI (θ 0) x.1 x.2.2, i64 x.2.1]
  objs x _ := [rowO x.1]
  out x θ R := R (slI (θ 1) (wo x.1 x.2.1) false) [some (rowO x.1), some (rowO (wo x.1 x.2.1))]
theorem SWithout_nt : SWithout.Nt := ⟨fun _ _ => rfl, fun _ _ => rfl, fun _ _ _ h => h⟩
theorem wo_length (l : List Int) (n : Int) : (wo l n).length ≤ l.length := List.length_filter_le _ _
theorem wo_take {l : List Int} {n : Int} {i : Nat} (h : i < l.length) : wo (l.take (i + 1)) n = if l.getD i 0 = n then wo (l.take i) n else wo (l.take i) n ++ [l.getD i 0] := by
  rw [List.take_succ_eq_append_getElem h]
  unfold wo
  rw [List.filter_append]
  have : l.getD i 0 = l[i] := by simp [h]
  rw [this]
  by_cases e : l[i] = n
  · rw [if_pos e]; simp [e]
  · rw [if_neg e]; simp [e]
theorem rowI_push (l : List Int) (x : Int) (q : Nat) (h : q < l.length + 1) : rowI (l ++ [x]) q = appF l.length (fun q => rowI l (0 + q)) (fun q => chunk [.int .i64 x] 1 (0 + q)) q := by
  unfold appF
  rcases Nat.lt_or_ge q l.length with a | a
  · rw [show Nat.blt q l.length = true from Nat.ble_eq_true_of_le a]
    simp [rowI, List.getElem?_append_left a]
  · have e : q = l.length := by omega
    subst e
    have : Nat.blt l.length l.length = false := by
      cases hb : Nat.blt l.length l.length with
      | false => rfl
      | true => have := blt_lt hb; omega
    rw [this]
    simp [rowI, chunk]
theorem app_small0 {n : Nat} (h : n ≤ 1000000) : n * (8 + 1) ≤ 1000000000 := by omega
theorem app_small {n : Nat} (h : n ≤ 1000000) : (n + 1) * (8 + 1) ≤ 1000000000 := by omega
theorem SWithout_ok : SWithout.Ok Try.prog 37 := by
  refine LSpec.of_body noGo mixed conOf_nil Try.func37 rfl (by kernel_rfl) fun ⟨l, n, full⟩ R hp hR => ?_
  have hp : l.length < 1000000 := hp
  (conv => whnf)
  refine .inl ⟨Nat, fun i => [(0, slI 0 l full), (1, i64 n), (5, slI 1 (wo (l.take i) n) false), (6, i64 i)], fun i => [some (rowO l), some (rowO (wo (l.take i) n))], fun i => l.length - i, fun i => i ≤ l.length, 2, ⟨0, [none], ?_, ?_⟩, fun _ => rfl, fun i hi => ?_⟩
  · simp
  · (repeat' (first | exact True.intro | rfl | assumption | (refine And.intro ?_ ?_) | (intro _ _; rfl) | ((conv => whnf); (first | exact True.intro | (refine And.intro ?_ ?_)))))
  (conv => whnf)
  constructor
  · intro h
    (conv => whnf)
    have hi2 := dec_lt h
    have hwl : (wo (l.take i) n).length ≤ i := Nat.le_trans (wo_length _ _) (by rw [List.length_take]; omega)
    refine ⟨by simp, by simpa using h, by simpa using h, ?_⟩
    (conv => whnf)
    constructor
    · intro h2
      (conv => whnf)
      have h3 : ¬ l.getD i 0 = n := by simpa using h2
      have hw := wo_take (n := n) hi2
      rw [if_neg h3] at hw
      refine ⟨by simp, by simpa using h, by simpa using h, ?_⟩
      (conv => whnf)
      refine ⟨some (rowI (wo (l.take (i + 1)) n)), ?_⟩
      (conv => whnf)
      refine ⟨by simp, by simp, ?_, fun q hq => ?_, ?_⟩
      · exact app_small (by omega)
      · rw [hw, ← getD_nat]
        exact rowI_push _ _ q hq
      (conv => whnf)
      refine ⟨i + 1, [some 3], by show l.length - (i + 1) < l.length - i; omega, by show i + 1 ≤ l.length; omega, ?_⟩
      have e1 : (wo (l.take (i + 1)) n).length = (wo (l.take i) n).length + 1 := by rw [hw]; simp
      refine ⟨rfl, ?_, ?_⟩
      · (repeat' (first | exact True.intro | rfl | assumption | (refine And.intro ?_ ?_) | (intro _ _; rfl) | ((conv => whnf); (first | exact True.intro | (refine And.intro ?_ ?_)))))
      · (repeat' (first | exact True.intro | rfl | assumption | (refine And.intro ?_ ?_) | (intro _ _; rfl) | ((conv => whnf); (first | exact True.intro | (refine And.intro ?_ ?_)))))
        exact (wrap_inc hi2 (by omega)).symm
    · intro h2
      (conv => whnf)
      have h3 : l.getD i 0 = n := by simpa using h2
      have hw := wo_take (n := n) hi2
      rw [if_pos h3] at hw
      refine ⟨i + 1, [some 1], by show l.length - (i + 1) < l.length - i; omega, by show i + 1 ≤ l.length; omega, ?_⟩
      refine ⟨rfl, ?_, ?_⟩
      · (repeat' (first | exact True.intro | rfl | assumption | (refine And.intro ?_ ?_) | (intro _ _; rfl) | ((conv => whnf); (first | exact True.intro | (refine And.intro ?_ ?_)))))
        · exact congrArg List.length hw
        · intro j _
          show rowI (wo (l.take (i + 1)) n) j = rowI (wo (l.take i) n) j
          rw [hw]
      · (repeat' (first | exact True.intro | rfl | assumption | (refine And.intro ?_ ?_) | (intro _ _; rfl) | ((conv => whnf); (first | exact True.intro | (refine And.intro ?_ ?_)))))
        · exact congrArg List.length hw
        · exact (wrap_inc hi2 (by omega)).symm
  · intro h
    (conv => whnf)
    have hi2 : i = l.length := by have := dec_ge h; have : i ≤ l.length := hi; omega
    subst hi2
    refine ⟨[some 1], _, _, hR, ?_⟩
    (repeat' (first | exact True.intro | rfl | assumption | (refine And.intro ?_ ?_) | (intro _ _; rfl) | ((conv => whnf); (first | exact True.intro | (refine And.intro ?_ ?_)))))
    · show (wo l n).length = (wo (l.take l.length) n).length
      rw [List.take_length]
    · intro j _
      show rowI (wo l n) j = rowI (wo (l.take l.length) n) j
      rw [List.take_length]
    all_goals (show (wo l n).length = (wo (l.take l.length) n).length; rw [List.take_length])

theorem atI_ge : ∀ {l : List Int} {n i : Int}, 0 ≤ i → (0 ≤ atI l n i ↔ n ∈ l)
  | [], n, i, _ => by simp [atI]
  | x :: l, n, i, h => by
    simp only [atI, List.mem_cons]
    by_cases e : x = n
    · rw [if_pos e]; simp [e, h]
    · rw [if_neg e, atI_ge (by omega)]
      constructor
      · exact .inr
      · rintro (g | g)
        · exact absurd g.symm e
        · exact g
theorem atI_at : ∀ {l : List Int} {n i : Int}, n ∈ l → ∃ k : Nat, atI l n i = i + k ∧ k < l.length ∧ l.getD k 0 = n ∧ n ∉ l.take k
  | x :: l, n, i, h => by
    simp only [atI]
    by_cases e : x = n
    · exact ⟨0, by rw [if_pos e]; simp, by simp, by simpa using e, by simp⟩
    · rw [if_neg e]
      have hm : n ∈ l := by
        rcases List.mem_cons.1 h with g | g
        · exact absurd g.symm e
        · exact g
      obtain ⟨k, h1, h2, h3, h4⟩ := atI_at (i := i + 1) hm
      exact ⟨k + 1, by rw [h1]; push_cast; omega, by simpa using h2, by simpa using h3, by simpa using ⟨Ne.symm e, h4⟩⟩
  | [], _, _, h => by cases h
def SSlot : LSpec where
  X := Int
  k := 0
  pre _ := True
  args n _ := [i64 n]
  objs _ _ := []
  out n _ R := R (.sb (decide (slot n))) []
theorem SSlot_nt : SSlot.Nt := ⟨fun _ _ => rfl, fun _ _ => rfl, fun _ _ _ h => h⟩
theorem SSlot_ok : SSlot.Ok Try.prog 9 := by
  refine LSpec.of_body noGo mixed conOf_nil Try.func9 rfl (by kernel_rfl) fun (n : Int) R hp hR => ?_
  (conv => whnf)
  constructor
  · intro h
    (conv => whnf)
    refine ⟨[], _, _, hR, ?_⟩
    (repeat' (first | exact True.intro | rfl | assumption | (refine And.intro ?_ ?_) | (intro _ _; rfl) | ((conv => whnf); (first | exact True.intro | (refine And.intro ?_ ?_)))))
    have h : 0 ≤ n := by simpa using h
    have e : decide (slot n) = decide (n < 1048576) := by simp [slot, h]
    rw [e]
    rfl
  · intro h
    (conv => whnf)
    refine ⟨[], _, _, hR, ?_⟩
    (repeat' (first | exact True.intro | rfl | assumption | (refine And.intro ?_ ?_) | (intro _ _; rfl) | ((conv => whnf); (first | exact True.intro | (refine And.intro ?_ ?_)))))
    have h : ¬ 0 ≤ n := by simpa using h
    have e : decide (slot n) = false := by simp [slot, h]
    rw [e]
    rfl
theorem con1 : ConOk Try.prog (conOf [(9, SSlot.T), (34, SAt.T), (37, SWithout.T)]) :=
  conOf_cons (LSpec.call SSlot_nt SSlot_ok) (conOf_cons (LSpec.call SAt_nt SAt_ok) (conOf_cons (LSpec.call SWithout_nt SWithout_ok) conOf_nil))

def addE (l : List Int) (n : Int) : Int := if ¬ slot n then 2 else if n ∈ l then 11 else 0
def remE (l : List Int) (n : Int) : Int := if ¬ slot n then 2 else if n ∉ l then 9 else 0
def SAdd : LSpec where
  X := List Int × Int × Bool
  k := 1
  pre x := x.1.length < 100000
  args x θ := [slI (θ 0) x.1 x.2.2, i64 x.2.1]
  objs x _ := [rowO x.1]
  out x θ R := (addE x.1 x.2.1 = 0 → R (.tup [slI (θ 1) (x.1 ++ [x.2.1]) false, i64 0]) [some (rowO x.1), some (rowO (x.1 ++ [x.2.1]))]) ∧ (addE x.1 x.2.1 ≠ 0 → R (.tup [slI (θ 0) x.1 x.2.2, i64 (addE x.1 x.2.1)]) [some (rowO x.1)])
theorem SAdd_nt : SAdd.Nt := ⟨fun _ _ => rfl, fun _ _ => rfl, fun _ _ _ h => h⟩
theorem SAdd_ok : SAdd.Ok Try.prog 29 := by
  refine LSpec.of_body noGo mixed con1 Try.func29 rfl (by kernel_rfl) fun ⟨l, n, full⟩ R hp ⟨hR0, hR1⟩ => ?_
  have hp : l.length < 100000 := hp
  (conv => whnf)
  refine ⟨n, [], trivial, rfl, ⟨⟨rfl, rfl⟩, trivial⟩, trivial, ?_⟩
  (conv => whnf)
  constructor
  · intro h
    have h : ¬ slot n := by simpa using h
    have e : addE l n = 2 := if_pos h
    (conv => whnf)
    refine ⟨[], _, _, hR1 (by show addE l n ≠ 0; omega), ?_⟩
    (repeat' (first | exact True.intro | rfl | assumption | (refine And.intro ?_ ?_) | (intro _ _; rfl) | ((conv => whnf); (first | exact True.intro | (refine And.intro ?_ ?_)))))
  · intro h
    have h : slot n := by simpa using h
    (conv => whnf)
    refine ⟨(l, n, full), [0], by show l.length < 1000000000; omega, rfl, ?_, ?_, ?_⟩
    · (repeat' (first | exact True.intro | rfl | assumption | (refine And.intro ?_ ?_) | (intro _ _; rfl) | ((conv => whnf); (first | exact True.intro | (refine And.intro ?_ ?_)))))
    · (repeat' (first | exact True.intro | rfl | assumption | (refine And.intro ?_ ?_) | (intro _ _; rfl) | ((conv => whnf); (first | exact True.intro | (refine And.intro ?_ ?_)))))
    (conv => whnf)
    constructor
    · intro h2
      have h2 : n ∈ l := (atI_ge (Int.le_refl 0)).1 (by simpa using h2)
      have e : addE l n = 11 := by unfold addE; rw [if_neg (by simpa using h), if_pos h2]
      (conv => whnf)
      refine ⟨[], _, _, hR1 (by show addE l n ≠ 0; omega), ?_⟩
      (repeat' (first | exact True.intro | rfl | assumption | (refine And.intro ?_ ?_) | (intro _ _; rfl) | ((conv => whnf); (first | exact True.intro | (refine And.intro ?_ ?_)))))
    · intro h2
      have h2 : ¬ n ∈ l := fun g => by have := (atI_ge (l := l) (n := n) (Int.le_refl 0)).2 g; simp at h2; omega
      have e : addE l n = 0 := by unfold addE; rw [if_neg (by simpa using h), if_neg h2]
      (conv => whnf)
      refine ⟨some (rowI l), ?_⟩
      (conv => whnf)
      refine ⟨by simp, app_small0 (by show l.length ≤ 1000000; omega), fun q _ => by show rowI l q = rowI l (0 + q); rw [Nat.zero_add], ?_⟩
      (conv => whnf)
      refine ⟨some (rowI (l ++ [n])), ?_⟩
      (conv => whnf)
      refine ⟨by simp, by simp, app_small (by show l.length ≤ 1000000; omega), fun q hq => rowI_push _ _ q hq, ?_⟩
      (conv => whnf)
      refine ⟨[some 3], _, _, hR0 e, ?_⟩
      (repeat' (first | exact True.intro | rfl | assumption | (refine And.intro ?_ ?_) | (intro _ _; rfl) | ((conv => whnf); (first | exact True.intro | (refine And.intro ?_ ?_)))))
      all_goals simp
end Go.Proofs.Ytollflfkgcgdkaa
