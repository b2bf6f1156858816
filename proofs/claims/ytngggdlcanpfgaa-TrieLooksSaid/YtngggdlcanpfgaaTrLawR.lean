/- What the law's functions of the trie compute: Same, looks, is. -/
import Derived.Test.YtngggdlcanpfgaaTrRefER
import Derived.Test.YtngggdlcanpfgaaTrCutR
namespace Go.Proofs.Ytngggdlcanpfgaa
open Go Go.RowKit Sy Ti
set_option maxRecDepth 100000
set_option maxHeartbeats 4000000

theorem bs_ext {x y : Bs} (h : x.data.toList = y.data.toList) : x = y := by_inj h
theorem prEq (a : Bs) (n : Int) (b : Bs) (m : Int) : EqOk Try.prog 50 [.str a, .int .u64 n] [.str b, .int .u64 m] := by
  intro ρ l' m' h1 h2 w
  simp only [czl, cz, Option.some.injEq] at h1 h2
  subst h1 h2
  unfold Op.equal Op.maxDepth Op.equalIn
  simp only [Sem.run_bind, run_underlying Try.underlying50, Result.andThen_ok]
  have hs : Try.prog.stoodInHeld 50 = false := by kernel_rfl
  have e1 : ∀ c, (part 9 #[Value.string a, Value.int .u64 n] 0).run Try.prog c = .ok (.string a) c := fun c => run_part c (.inr ⟨by kernel_rfl, rfl⟩)
  have e2 : ∀ c, (part 9 #[Value.string b, Value.int .u64 m] 0).run Try.prog c = .ok (.string b) c := fun c => run_part c (.inr ⟨by kernel_rfl, rfl⟩)
  have e3 : ∀ c, (part 27 #[Value.string a, Value.int .u64 n] 1).run Try.prog c = .ok (.int .u64 n) c := fun c => run_part c (.inr ⟨by kernel_rfl, rfl⟩)
  have e4 : ∀ c, (part 27 #[Value.string b, Value.int .u64 m] 1).run Try.prog c = .ok (.int .u64 m) c := fun c => run_part c (.inr ⟨by kernel_rfl, rfl⟩)
  simp only [run_program, Result.andThen_ok, hs, Bool.false_eq_true, if_false, ← Array.forIn_toList, List.forIn_cons, List.forIn_nil, Sem.run_bind]
  have e5 : ∀ (x y : Bs) w, (Op.equalIn 9999 9 (.string x) (.string y)).run Try.prog w = .ok (decide (x = y)) w := fun x y w => by
    rw [show decide (x = y) = (x.toList == y.toList) by
      rw [Bool.eq_iff_iff, decide_eq_true_iff, beq_iff_eq, Lib.toList_data, Lib.toList_data]
      exact ⟨fun h => by rw [h], bs_ext⟩]
    exact run_equalIn_string w 9998 9 x y Try.underlying9
  have e6 : ∀ c, (Op.equalIn 9999 27 (.int .u64 n) (.int .u64 m)).run Try.prog c = .ok (n == m) c := fun c => by
    have := run_equalIn_int c 9998 27 .u64 .u64 n m Try.underlying27
    simpa using this
  rw [if_pos (by decide), if_pos (by decide)]
  simp only [Sem.run_bind, e1, e2, e5, Result.andThen_ok, eqL, eq1]
  by_cases h1 : a = b
  · by_cases h2 : n = m
    · subst h1 h2
      simp [Sem.run_bind, e3, e6]
    · subst h1
      simp [h2, Sem.run_bind, e3, e4, e6]
  · by_cases h2 : n = m <;> simp [h1]
theorem prGuard : Try.prog.eqGuardType Try.prog.depth 50 = false := by kernel_rfl
theorem eqL_pr (a b : Pr) : eqL [.str a.1, u64 a.2] [.str b.1, u64 b.2] = decide (a = b) := by
  unfold u64 eqL eqL eqL eq1
  obtain ⟨a1, a2⟩ := a
  obtain ⟨b1, b2⟩ := b
  rw [Bool.eq_iff_iff]
  simp only [Bool.and_eq_true, decide_eq_true_eq, and_true, Prod.mk.injEq]
def SSame : LSpec where
  X := List Pr
  k := 2
  pre x := x.length ≤ 1000000
  args x θ := [.sl (θ 0) 0 2 x.length false, .sl (θ 1) 0 2 x.length false]
  objs x _ := [prR x, prR x]
  out x _ R := R (.sb true) [some (prR x), some (prR x)]
theorem SSame_nt : SSame.Nt := ⟨fun _ _ => rfl, fun _ _ => rfl, fun _ _ _ h => h⟩
theorem SSame_ok : SSame.Ok Try.prog 22 := by
  refine LSpec.of_body noGo mixed conOf_nil Try.func22 rfl (by kernel_rfl) fun (w : List Pr) R hlen hR => ?_
  have hlen : w.length ≤ 1000000 := hlen
  have hR : R (.sb true) [some (prR w), some (prR w)] := hR
  (conv => whnf)
  refine ⟨fun hh => absurd (show (!decide ((w.length : Int) = (w.length : Int))) = true from hh) (by simp), fun _ => ?_⟩
  (conv => whnf)
  refine .inl ⟨Nat, fun i => [(0, .sl 0 0 2 w.length false), (1, .sl 1 0 2 w.length false), (5, i64 i)], fun _ => [some (prR w), some (prR w)], fun i => w.length - i, fun i => i ≤ w.length, 2, ⟨0, [], Nat.zero_le _, ?_⟩, fun _ => rfl, fun i hi => ?_⟩
  · (repeat' (first | exact True.intro | rfl | assumption | exact tn_ok rfl | exact tr_ok rfl | exact fun _ => rfl | (refine And.intro ?_ ?_) | (intro _ _; rfl) | ((conv => whnf); (first | exact True.intro | (refine And.intro ?_ ?_)))))
  have hi : i ≤ w.length := hi
  have ei := zero_add_toNat i
  (conv => whnf)
  constructor
  · intro h
    have h : i < w.length := by have : (i : Int) < (w.length : Int) := of_decide_eq_true h; omega
    have hiN : 0 + ((i : Nat) : Int).toNat < w.length := by rw [ei]; exact h
    have b1 : (0 : Int) ≤ (i : Int) ∧ (i : Int) < (w.length : Int) := ⟨by omega, by omega⟩
    (conv => whnf)
    refine ⟨b1.1, b1.2, ?_⟩
    (conv => whnf)
    refine ⟨hiN, ?_⟩
    (conv => whnf)
    refine ⟨b1.1, b1.2, ?_⟩
    (conv => whnf)
    refine ⟨hiN, ?_⟩
    (conv => whnf)
    refine ⟨prGuard, prEq _ _ _ _, ?_⟩
    (conv => whnf)
    refine ⟨fun hh => absurd (show (!eqL [.str (w.getD (0 + (i : Int).toNat) p00).1, u64 (w.getD (0 + (i : Int).toNat) p00).2] [.str (w.getD (0 + (i : Int).toNat) p00).1, u64 (w.getD (0 + (i : Int).toNat) p00).2]) = true from hh) (by rw [eqL_pr]; simp), fun _ => ?_⟩
    (conv => whnf)
    refine ⟨i + 1, [], by show w.length - (i + 1) < w.length - i; omega, by show i + 1 ≤ w.length; omega, ?_⟩
    (repeat' (first | exact True.intro | rfl | assumption | exact tn_ok rfl | exact tr_ok rfl | exact fun _ => rfl | (refine And.intro ?_ ?_) | (intro _ _; rfl) | ((conv => whnf); (first | exact True.intro | (refine And.intro ?_ ?_)))))
    exact (wrap_inc h (by omega)).symm
  · intro h
    (conv => whnf)
    refine ⟨[], _, _, hR, ?_⟩
    (repeat' (first | exact True.intro | rfl | assumption | exact tn_ok rfl | exact tr_ok rfl | exact fun _ => rfl | (refine And.intro ?_ ?_) | (intro _ _; rfl) | ((conv => whnf); (first | exact True.intro | (refine And.intro ?_ ?_)))))
theorem conLo : ConOk Try.prog (conOf [(41, GLongest.T)]) := conOf_cons (LSpec.call GLongest_nt GLongest_ok) conOf_nil
theorem conGe : ConOk Try.prog (conOf [(44, GGet.T)]) := conOf_cons (LSpec.call GGet_nt GGet_ok) conOf_nil
theorem conLk : ConOk Try.prog (conOf [(35, SRLongest.T), (16, GMax.T), (36, SRMax.T), (17, inl Try.prog (conOf [(41, GLongest.T)]) Try.f17), (28, inl Try.prog (conOf []) Try.f28), (24, inl Try.prog (conOf [(44, GGet.T)]) Try.f24), (18, GUnder.T), (37, SRUnder.T), (22, SSame.T), (38, SRFind.T)]) :=
  conOf_cons (LSpec.call SRLongest_nt SRLongest_ok) (conOf_cons (LSpec.call GMax_nt GMax_ok) (conOf_cons (LSpec.call SRMax_nt SRMax_ok) (conOf_cons (inl_ok noGo mixed conLo Try.func17 (by kernel_rfl)) (conOf_cons (inl_ok noGo mixed conOf_nil Try.func28 (by kernel_rfl)) (conOf_cons (inl_ok noGo mixed conGe Try.func24 (by kernel_rfl)) (conOf_cons (LSpec.call GUnder_nt GUnder_ok) (conOf_cons (LSpec.call SRUnder_nt SRUnder_ok) (conOf_cons (LSpec.call SSame_nt SSame_ok) (conOf_cons (LSpec.call SRFind_nt SRFind_ok) conOf_nil)))))))))
theorem eqd {α : Type} [DecidableEq α] {a : α} {p : Prop} (h : (!decide (a = a)) = true) : p := by simp at h
theorem eqd' {α : Type} [DecidableEq α] {a : α} {p : Prop} (h : decide (a = a) = false) : p := by simp at h
def prL (c : Pr) : List V := [.str c.1, u64 c.2]
def prS (n : Nat) (F : Nat → Pr) : SObj := .row n (fun q => prL (F q)) 50 2
theorem pr_n {F : Nat → Pr} {i : Nat} {x : Int} (q : Nat) : prL (if q = i then ((F i).1, x) else F q) = bif Nat.beq q i then putD 1 (prL (F q)) [u64 x] else prL (F q) := by
  by_cases h : q = i
  · subst h
    rw [if_pos rfl, Nat.beq_refl]
    rfl
  · rw [if_neg h, show Nat.beq q i = false from by cases hb : Nat.beq q i with | false => rfl | true => exact absurd (Nat.eq_of_beq_eq_true hb) h]
    rfl
def SLooks : LSpec where
  X := GX
  k := 4
  pre x := GOk x ∧ x.m.length ≤ 1000
  args x θ := [.ptr (θ 0) 0, .sl (θ 3) 0 2 x.m.length false, .str x.s]
  objs x θ := objsG θ x.T x.R x.root x.m.length ++ [prR x.m]
  out x θ R := R (.sb true) (allG θ x.T x.R x.root x.m.length ++ [some (prR x.m)])
theorem SLooks_nt : SLooks.Nt := ⟨fun _ _ => rfl, by unfold SLooks objsG; (intros; simp only [ren_all] at *; try assumption); simp only [prR_ren], by
  unfold SLooks allG
  intro x θ R h
  have := h
  simp only [ren_all, prR_ren]
  exact this⟩
theorem SLooks_ok : SLooks.Ok Try.prog 12 := by
  refine LSpec.of_body noGo mixed conLk Try.func12 rfl (by kernel_rfl) fun ⟨T, M, root, ns, m, s, nn⟩ R hX hR => ?_
  have hg : TG T M root ns m := hX.1.1
  have hl : m.length ≤ 1000 := hX.2
  have hok : GOk ⟨T, M, root, ns, m, s, 0⟩ := ⟨hg, by show m.length ≤ 900000; omega⟩
  have hlm : m.length ≤ 1000000 := by omega
  have hQ : R (.sb true) (allG _root_.id T M root m.length ++ [some (prR m)]) := hR
  clear hX hR
  show bodyP _ _ _ _ _ [.ptr 0 0, .sl 3 0 2 m.length false, .str s] ⟨4, Tr.ofL 0 (objsG _root_.id T M root m.length ++ [prR m]) .leaf⟩ _
  (conv => whnf)
  refine ⟨(m, s), [3], hlm, rfl, by (repeat' (first | exact True.intro | rfl | assumption | exact tn_ok rfl | exact tr_ok rfl | exact fun _ => rfl | (refine And.intro ?_ ?_) | (intro _ _; rfl) | ((conv => whnf); (first | exact True.intro | (refine And.intro ?_ ?_))))), by (repeat' (first | exact True.intro | rfl | assumption | exact tn_ok rfl | exact tr_ok rfl | exact fun _ => rfl | (refine And.intro ?_ ?_) | (intro _ _; rfl) | ((conv => whnf); (first | exact True.intro | (refine And.intro ?_ ?_))))), ?_⟩
  (conv => whnf)
  refine ⟨⟨T, M, root, ns, m, s, 0⟩, [0, 1, 2], hok, rfl, by (repeat' (first | exact True.intro | rfl | assumption | exact tn_ok rfl | exact tr_ok rfl | exact fun _ => rfl | (refine And.intro ?_ ?_) | (intro _ _; rfl) | ((conv => whnf); (first | exact True.intro | (refine And.intro ?_ ?_))))), by (repeat' (first | exact True.intro | rfl | assumption | exact tn_ok rfl | exact tr_ok rfl | exact fun _ => rfl | (refine And.intro ?_ ?_) | (intro _ _; rfl) | ((conv => whnf); (first | exact True.intro | (refine And.intro ?_ ?_))))), ?_⟩
  (conv => whnf)
  refine ⟨(m, s), [3], hlm, rfl, by (repeat' (first | exact True.intro | rfl | assumption | exact tn_ok rfl | exact tr_ok rfl | exact fun _ => rfl | (refine And.intro ?_ ?_) | (intro _ _; rfl) | ((conv => whnf); (first | exact True.intro | (refine And.intro ?_ ?_))))), by (repeat' (first | exact True.intro | rfl | assumption | exact tn_ok rfl | exact tr_ok rfl | exact fun _ => rfl | (refine And.intro ?_ ?_) | (intro _ _; rfl) | ((conv => whnf); (first | exact True.intro | (refine And.intro ?_ ?_))))), ?_⟩
  (conv => whnf)
  refine ⟨fun _ => ?_, fun hh => eqd hh⟩
  (conv => whnf)
  refine ⟨⟨T, M, root, ns, m, s, 0⟩, [0, 1, 2], hok, rfl, by (repeat' (first | exact True.intro | rfl | assumption | exact tn_ok rfl | exact tr_ok rfl | exact fun _ => rfl | (refine And.intro ?_ ?_) | (intro _ _; rfl) | ((conv => whnf); (first | exact True.intro | (refine And.intro ?_ ?_))))), by (repeat' (first | exact True.intro | rfl | assumption | exact tn_ok rfl | exact tr_ok rfl | exact fun _ => rfl | (refine And.intro ?_ ?_) | (intro _ _; rfl) | ((conv => whnf); (first | exact True.intro | (refine And.intro ?_ ?_))))), ?_⟩
  (conv => whnf)
  refine ⟨fun _ => ?_, fun hh => eqd' hh⟩
  (conv => whnf)
  refine ⟨fun hh => eqd hh, fun _ => ?_⟩
  (conv => whnf)
  constructor
  · intro h
    have h := sz_t h
    have eg : getE m s = (0, 2) := if_neg h
    have eu : undE m s = [] := if_neg h
    (conv => whnf)
    refine ⟨⟨T, M, root, ns, m, s, 0⟩, [0, 1, 2], hok, rfl, by (repeat' (first | exact True.intro | rfl | assumption | exact tn_ok rfl | exact tr_ok rfl | exact fun _ => rfl | (refine And.intro ?_ ?_) | (intro _ _; rfl) | ((conv => whnf); (first | exact True.intro | (refine And.intro ?_ ?_))))), by (repeat' (first | exact True.intro | rfl | assumption | exact tn_ok rfl | exact tr_ok rfl | exact fun _ => rfl | (refine And.intro ?_ ?_) | (intro _ _; rfl) | ((conv => whnf); (first | exact True.intro | (refine And.intro ?_ ?_))))), ?_⟩
    (conv => whnf)
    rw [show getE m s = (0, 2) from eg]
    refine ⟨fun _ => ?_, fun hh => eqd' hh⟩
    (conv => whnf)
    refine ⟨fun _ => ?_, fun hh => eqd' hh⟩
    (conv => whnf)
    refine ⟨⟨T, M, root, ns, m, s, 0⟩, [0, 1, 2], hok, rfl, by (repeat' (first | exact True.intro | rfl | assumption | exact tn_ok rfl | exact tr_ok rfl | exact fun _ => rfl | (refine And.intro ?_ ?_) | (intro _ _; rfl) | ((conv => whnf); (first | exact True.intro | (refine And.intro ?_ ?_))))), by (repeat' (first | exact True.intro | rfl | assumption | exact tn_ok rfl | exact tr_ok rfl | exact fun _ => rfl | (refine And.intro ?_ ?_) | (intro _ _; rfl) | ((conv => whnf); (first | exact True.intro | (refine And.intro ?_ ?_))))), ?_⟩
    (conv => whnf)
    rw [show undE m s = [] from eu]
    refine ⟨[], _, _, hQ, ?_⟩
    (repeat' (first | exact True.intro | rfl | assumption | exact tn_ok rfl | exact tr_ok rfl | exact fun _ => rfl | (refine And.intro ?_ ?_) | (intro _ _; rfl) | ((conv => whnf); (first | exact True.intro | (refine And.intro ?_ ?_)))))
  intro h
  have h := sz_f h
  have eu : undE m s = undR m s := if_pos h
  have hul : (undR m s).length ≤ 1000000 := Nat.le_trans (List.length_filter_le ..) hlm
  (conv => whnf)
  refine ⟨⟨T, M, root, ns, m, s, 0⟩, [0, 1, 2], hok, rfl, by (repeat' (first | exact True.intro | rfl | assumption | exact tn_ok rfl | exact tr_ok rfl | exact fun _ => rfl | (refine And.intro ?_ ?_) | (intro _ _; rfl) | ((conv => whnf); (first | exact True.intro | (refine And.intro ?_ ?_))))), by (repeat' (first | exact True.intro | rfl | assumption | exact tn_ok rfl | exact tr_ok rfl | exact fun _ => rfl | (refine And.intro ?_ ?_) | (intro _ _; rfl) | ((conv => whnf); (first | exact True.intro | (refine And.intro ?_ ?_))))), ?_⟩
  (conv => whnf)
  rw [show undE m s = undR m s from eu]
  refine ⟨(m, s), [3], hlm, rfl, by (repeat' (first | exact True.intro | rfl | assumption | exact tn_ok rfl | exact tr_ok rfl | exact fun _ => rfl | (refine And.intro ?_ ?_) | (intro _ _; rfl) | ((conv => whnf); (first | exact True.intro | (refine And.intro ?_ ?_))))), by (repeat' (first | exact True.intro | rfl | assumption | exact tn_ok rfl | exact tr_ok rfl | exact fun _ => rfl | (refine And.intro ?_ ?_) | (intro _ _; rfl) | ((conv => whnf); (first | exact True.intro | (refine And.intro ?_ ?_))))), ?_⟩
  (conv => whnf)
  refine ⟨undR m s, [4, 5], hul, rfl, by (repeat' (first | exact True.intro | rfl | assumption | exact tn_ok rfl | exact tr_ok rfl | exact fun _ => rfl | (refine And.intro ?_ ?_) | (intro _ _; rfl) | ((conv => whnf); (first | exact True.intro | (refine And.intro ?_ ?_))))), by (repeat' (first | exact True.intro | rfl | assumption | exact tn_ok rfl | exact tr_ok rfl | exact fun _ => rfl | (refine And.intro ?_ ?_) | (intro _ _; rfl) | ((conv => whnf); (first | exact True.intro | (refine And.intro ?_ ?_))))), ?_⟩
  (conv => whnf)
  refine ⟨fun hh => Bool.noConfusion (show (!true) = true from hh), fun _ => ?_⟩
  (conv => whnf)
  refine .inl ⟨Nat × (Nat → Pr), fun x => [(0, .ptr 0 0), (1, .sl 3 0 2 m.length false), (2, .str s), (9, .sl 4 0 2 (undR m s).length false), (10, i64 x.1)], fun x => allG _root_.id T M root m.length ++ [some (prR m), some (prS (undR m s).length x.2)], fun x => (undR m s).length - x.1, fun x => x.1 ≤ (undR m s).length, 5, ⟨(0, fun j => (undR m s).getD j p00), [some 4], Nat.zero_le _, ?_⟩, fun _ => rfl, fun ⟨i, F⟩ hi => ?_⟩
  · (repeat' (first | exact True.intro | rfl | assumption | exact tn_ok rfl | exact tr_ok rfl | exact fun _ => rfl | (refine And.intro ?_ ?_) | (intro _ _; rfl) | ((conv => whnf); (first | exact True.intro | (refine And.intro ?_ ?_)))))
  have hi : i ≤ (undR m s).length := hi
  have ei := zero_add_toNat i
  (conv => whnf)
  constructor
  · intro hlt
    have hlt : i < (undR m s).length := by have : (i : Int) < ((undR m s).length : Int) := of_decide_eq_true hlt; omega
    have hiN : 0 + ((i : Nat) : Int).toNat < (undR m s).length := by rw [ei]; exact hlt
    have b1 : (0 : Int) ≤ (i : Int) ∧ (i : Int) < ((undR m s).length : Int) := ⟨by omega, by omega⟩
    (conv => whnf)
    refine ⟨b1.1, b1.2, ?_⟩
    (conv => whnf)
    refine ⟨hiN, ?_⟩
    (conv => whnf)
    refine ⟨b1.1, b1.2, ?_⟩
    (conv => whnf)
    refine ⟨some (fun q => prL (if q = i then ((F i).1, IntKind.u64.wrap ((F (0 + (i : Int).toNat)).2 + 1)) else F q)), ?_⟩
    (conv => whnf)
    refine ⟨hiN, ?_⟩
    (conv => whnf)
    refine ⟨fun q _ => ?_, ?_⟩
    · show prL (if q = i then _ else F q) = bif Nat.beq q (0 + (i : Int).toNat) then putD 1 (prL (F q)) [u64 (IntKind.u64.wrap ((F (0 + (i : Int).toNat)).2 + 1))] else prL (F q)
      rw [ei]
      exact pr_n q
    (conv => whnf)
    refine ⟨(i + 1, fun q => if q = i then ((F i).1, IntKind.u64.wrap ((F (0 + (i : Int).toNat)).2 + 1)) else F q), [some 4], by show (undR m s).length - (i + 1) < (undR m s).length - i; omega, by show i + 1 ≤ (undR m s).length; omega, ?_⟩
    (repeat' (first | exact True.intro | rfl | assumption | exact tn_ok rfl | exact tr_ok rfl | exact fun _ => rfl | (refine And.intro ?_ ?_) | (intro _ _; rfl) | ((conv => whnf); (first | exact True.intro | (refine And.intro ?_ ?_)))))
    exact (wrap_inc hlt (by omega)).symm
  · intro hlt
    have hpg := posP_get (w := m) h
    have hpl := posP_le (s := s) (w := m)
    (conv => whnf)
    refine ⟨(m, s), [3], hlm, rfl, by (repeat' (first | exact True.intro | rfl | assumption | exact tn_ok rfl | exact tr_ok rfl | exact fun _ => rfl | (refine And.intro ?_ ?_) | (intro _ _; rfl) | ((conv => whnf); (first | exact True.intro | (refine And.intro ?_ ?_))))), by (repeat' (first | exact True.intro | rfl | assumption | exact tn_ok rfl | exact tr_ok rfl | exact fun _ => rfl | (refine And.intro ?_ ?_) | (intro _ _; rfl) | ((conv => whnf); (first | exact True.intro | (refine And.intro ?_ ?_))))), ?_⟩
    (conv => whnf)
    constructor
    · intro hh
      have hh : fndI s m ≥ 0 := of_decide_eq_true hh
      have hp : posP s m < m.length := Decidable.byContradiction fun g => by unfold fndI at hh; rw [if_neg g] at hh; omega
      have ef : fndI s m = (posP s m : Int) := by unfold fndI; rw [if_pos hp]
      rw [if_pos hp] at hpg
      rw [ef]
      generalize posP s m = k at *
      have ek := zero_add_toNat k
      (conv => whnf)
      refine ⟨by show (0 : Int) ≤ (k : Int); omega, by show (k : Int) < (m.length : Int); omega, ?_⟩
      (conv => whnf)
      refine ⟨by rw [ek]; exact hp, ?_⟩
      rw [ek]
      (conv => whnf)
      refine ⟨⟨T, M, root, ns, m, s, 0⟩, [0, 1, 2], hok, rfl, by (repeat' (first | exact True.intro | rfl | assumption | exact tn_ok rfl | exact tr_ok rfl | exact fun _ => rfl | (refine And.intro ?_ ?_) | (intro _ _; rfl) | ((conv => whnf); (first | exact True.intro | (refine And.intro ?_ ?_))))), by (repeat' (first | exact True.intro | rfl | assumption | exact tn_ok rfl | exact tr_ok rfl | exact fun _ => rfl | (refine And.intro ?_ ?_) | (intro _ _; rfl) | ((conv => whnf); (first | exact True.intro | (refine And.intro ?_ ?_))))), ?_⟩
      (conv => whnf)
      rw [show getE m s = ((m.getD k p00).2, 0) from hpg]
      refine ⟨fun _ => ?_, fun hh => eqd' hh⟩
      (conv => whnf)
      refine ⟨[], _, _, hQ, ?_⟩
      (repeat' (first | exact True.intro | rfl | assumption | exact tn_ok rfl | exact tr_ok rfl | exact fun _ => rfl | (refine And.intro ?_ ?_) | (intro _ _; rfl) | ((conv => whnf); (first | exact True.intro | (refine And.intro ?_ ?_)))))
    · intro hh
      have hh : ¬ fndI s m ≥ 0 := of_decide_eq_false hh
      have hp : ¬ posP s m < m.length := fun g => by unfold fndI at hh; rw [if_pos g] at hh; omega
      rw [if_neg hp] at hpg
      (conv => whnf)
      refine ⟨⟨T, M, root, ns, m, s, 0⟩, [0, 1, 2], hok, rfl, by (repeat' (first | exact True.intro | rfl | assumption | exact tn_ok rfl | exact tr_ok rfl | exact fun _ => rfl | (refine And.intro ?_ ?_) | (intro _ _; rfl) | ((conv => whnf); (first | exact True.intro | (refine And.intro ?_ ?_))))), by (repeat' (first | exact True.intro | rfl | assumption | exact tn_ok rfl | exact tr_ok rfl | exact fun _ => rfl | (refine And.intro ?_ ?_) | (intro _ _; rfl) | ((conv => whnf); (first | exact True.intro | (refine And.intro ?_ ?_))))), ?_⟩
      (conv => whnf)
      rw [show getE m s = (0, 9) from hpg]
      refine ⟨fun _ => ?_, fun hh => eqd' hh⟩
      (conv => whnf)
      refine ⟨[], _, _, hQ, ?_⟩
      (repeat' (first | exact True.intro | rfl | assumption | exact tn_ok rfl | exact tr_ok rfl | exact fun _ => rfl | (refine And.intro ?_ ?_) | (intro _ _; rfl) | ((conv => whnf); (first | exact True.intro | (refine And.intro ?_ ?_)))))
end Go.Proofs.Ytngggdlcanpfgaa
