/- What the law's own functions compute. -/
import Derived.Test.YtollflfkgcgdkaaRcPrg3
namespace Go.Proofs.Ytollflfkgcgdkaa
open Go Sy
set_option maxRecDepth 100000

theorem con9 : ConOk Try.prog (conOf [(18, SROld.T), (19, SRNext.T), (23, SRAll.T), (28, SSame.T)]) :=
  conOf_cons (LSpec.call SROld_nt SROld_ok) (conOf_cons (LSpec.call SRNext_nt SRNext_ok) (conOf_cons (LSpec.call SRAll_nt SRAll_ok) (conOf_cons (LSpec.call SSame_nt SSame_ok) conOf_nil)))
def SLOld : LSpec where
  X := (Ent × List Int) × Int × Int
  k := 2
  pre x := Ring x.1.1 x.1.2 ∧ x.1.2.length < 1000000
  args x θ := [.ptr (θ 0) 0, i64 x.2.1, i64 x.2.2]
  objs x θ := [rcC (θ 1), rcM x.1.1]
  out x θ R := R (.sb (decide (oldV x.1.2 = x.2.1 ∧ oldE x.1.2 = x.2.2))) [some (rcC (θ 1)), some (rcM x.1.1)]
theorem SLOld_nt : SLOld.Nt := ⟨fun _ _ => rfl, by unfold SLOld; (intros; simp only [ren_all] at *; try assumption), by unfold SLOld; (intros; simp only [ren_all] at *; try assumption)⟩
theorem SLOld_ok : SLOld.Ok Try.prog 17 := by
  refine LSpec.of_body noGo mixed con9 Try.func17 rfl (by kernel_rfl) fun ⟨⟨L, l⟩, a, b⟩ R hp hR => ?_
  (conv => whnf)
  refine ⟨(L, l), [0, 1], hp, rfl, by (repeat' (first | exact True.intro | rfl | assumption | exact ent_keep _ _ | (refine And.intro ?_ ?_) | (intro _ _; rfl) | ((conv => whnf); (first | exact True.intro | (refine And.intro ?_ ?_))))), by (repeat' (first | exact True.intro | rfl | assumption | exact ent_keep _ _ | (refine And.intro ?_ ?_) | (intro _ _; rfl) | ((conv => whnf); (first | exact True.intro | (refine And.intro ?_ ?_))))), ?_⟩
  (conv => whnf)
  constructor
  · intro h
    have h : oldV l = a := by simpa using h
    have e : decide (oldV l = a ∧ oldE l = b) = decide (oldE l = b) := by simp [h]
    (conv => whnf)
    refine ⟨[], _, _, hR, ?_⟩
    (repeat' (first | exact True.intro | rfl | assumption | exact ent_keep _ _ | (refine And.intro ?_ ?_) | (intro _ _; rfl) | ((conv => whnf); (first | exact True.intro | (refine And.intro ?_ ?_)))))
  · intro h
    have h : ¬ oldV l = a := by simpa using h
    have e : decide (oldV l = a ∧ oldE l = b) = false := by simp [h]
    (conv => whnf)
    refine ⟨[], _, _, hR, ?_⟩
    (repeat' (first | exact True.intro | rfl | assumption | exact ent_keep _ _ | (refine And.intro ?_ ?_) | (intro _ _; rfl) | ((conv => whnf); (first | exact True.intro | (refine And.intro ?_ ?_)))))
def SLNext : LSpec where
  X := (Ent × List Int) × Int × Int × Int
  k := 2
  pre x := Ring x.1.1 x.1.2
  args x θ := [.ptr (θ 0) 0, i64 x.2.1, i64 x.2.2.1, i64 x.2.2.2]
  objs x θ := [rcC (θ 1), rcM x.1.1]
  out x θ R := R (.sb (decide (nextV x.1.2 x.2.1 = x.2.2.1 ∧ nextE x.1.2 x.2.1 = x.2.2.2))) [some (rcC (θ 1)), some (rcM x.1.1)]
theorem SLNext_nt : SLNext.Nt := ⟨fun _ _ => rfl, by unfold SLNext; (intros; simp only [ren_all] at *; try assumption), by unfold SLNext; (intros; simp only [ren_all] at *; try assumption)⟩
theorem SLNext_ok : SLNext.Ok Try.prog 13 := by
  refine LSpec.of_body noGo mixed con9 Try.func13 rfl (by kernel_rfl) fun ⟨⟨L, l⟩, n, a, b⟩ R hp hR => ?_
  (conv => whnf)
  refine ⟨(L, l, n), [0, 1], hp, rfl, by (repeat' (first | exact True.intro | rfl | assumption | exact ent_keep _ _ | (refine And.intro ?_ ?_) | (intro _ _; rfl) | ((conv => whnf); (first | exact True.intro | (refine And.intro ?_ ?_))))), by (repeat' (first | exact True.intro | rfl | assumption | exact ent_keep _ _ | (refine And.intro ?_ ?_) | (intro _ _; rfl) | ((conv => whnf); (first | exact True.intro | (refine And.intro ?_ ?_))))), ?_⟩
  (conv => whnf)
  constructor
  · intro h
    have h : nextV l n = a := by simpa using h
    have e : decide (nextV l n = a ∧ nextE l n = b) = decide (nextE l n = b) := by simp [h]
    (conv => whnf)
    refine ⟨[], _, _, hR, ?_⟩
    (repeat' (first | exact True.intro | rfl | assumption | exact ent_keep _ _ | (refine And.intro ?_ ?_) | (intro _ _; rfl) | ((conv => whnf); (first | exact True.intro | (refine And.intro ?_ ?_)))))
  · intro h
    have h : ¬ nextV l n = a := by simpa using h
    have e : decide (nextV l n = a ∧ nextE l n = b) = false := by simp [h]
    (conv => whnf)
    refine ⟨[], _, _, hR, ?_⟩
    (repeat' (first | exact True.intro | rfl | assumption | exact ent_keep _ _ | (refine And.intro ?_ ?_) | (intro _ _; rfl) | ((conv => whnf); (first | exact True.intro | (refine And.intro ?_ ?_)))))
def SLAll : LSpec where
  X := (Ent × List Int) × List Int × Bool
  k := 3
  pre x := Ring x.1.1 x.1.2 ∧ x.1.2.length < 1000000
  args x θ := [.ptr (θ 0) 0, slI (θ 2) x.2.1 x.2.2]
  objs x θ := [rcC (θ 1), rcM x.1.1, rowO x.2.1]
  out x θ R := R (.sb (decide (x.1.2 = x.2.1))) [some (rcC (θ 1)), some (rcM x.1.1), some (rowO x.2.1)]
theorem SLAll_nt : SLAll.Nt := ⟨fun _ _ => rfl, by unfold SLAll; (intros; simp only [ren_all] at *; try assumption), by unfold SLAll; (intros; simp only [ren_all] at *; try assumption)⟩
theorem SLAll_ok : SLAll.Ok Try.prog 20 := by
  refine LSpec.of_body noGo mixed con9 Try.func20 rfl (by kernel_rfl) fun ⟨⟨L, l⟩, w, full⟩ R ⟨hp, hlen⟩ hR => ?_
  have hp : Ring L l := hp
  have hlen : l.length < 1000000 := hlen
  (conv => whnf)
  refine ⟨(L, l), [0, 1], ⟨hp, hlen⟩, rfl, by (repeat' (first | exact True.intro | rfl | assumption | exact ent_keep _ _ | (refine And.intro ?_ ?_) | (intro _ _; rfl) | ((conv => whnf); (first | exact True.intro | (refine And.intro ?_ ?_))))), by (repeat' (first | exact True.intro | rfl | assumption | exact ent_keep _ _ | (refine And.intro ?_ ?_) | (intro _ _; rfl) | ((conv => whnf); (first | exact True.intro | (refine And.intro ?_ ?_))))), ?_⟩
  (conv => whnf)
  refine with_lp 7 ?_
  intro lp
  refine .inl ⟨Nat, fun i => [(0, .yl 7), (1, .ptr 4 0), (5, slI 3 l false), (6, i64 l.length), (7, i64 i)], fun i => [some (rcC 1), some (rcM L), some (rowO w), some (rowO l), some (.cells [slI 3 l false] 36), some (.cells [slI 8 (l.take i) false] 36), some .mark, some lp, some (rowO (l.take i))], fun i => l.length - i, fun i => i ≤ l.length, 9, ⟨0, [none], ?_, ?_⟩, fun _ => rfl, fun i hi => ?_⟩
  · simp
  · (repeat' (first | exact True.intro | rfl | assumption | exact ent_keep _ _ | (refine And.intro ?_ ?_) | (intro _ _; rfl) | ((conv => whnf); (first | exact True.intro | (refine And.intro ?_ ?_)))))
  have hi : i ≤ l.length := hi
  (conv => whnf)
  constructor
  · intro h
    (conv => whnf)
    have hi2 := dec_lt h
    refine ⟨by simp, by simpa using h, by simpa using h, ?_⟩
    (conv => whnf)
    have hw : (l.take i).length ≤ i := by rw [List.length_take]; omega
    refine ⟨some (rowI (l.take (i + 1))), ?_⟩
    (conv => whnf)
    refine ⟨by simp, by simp, app_small (by omega), fun q hq => ?_, ?_⟩
    · rw [List.take_succ_eq_append_getElem hi2]
      have : l.getD (0 + (i : Int).toNat) 0 = l[i] := by simp [hi2]
      rw [← this]
      exact rowI_push _ _ q hq
    (conv => whnf)
    have e1 : (l.take (i + 1)).length = (l.take i).length + 1 := by rw [List.length_take, List.length_take]; omega
    refine ⟨i + 1, [some 10], by show l.length - (i + 1) < l.length - i; omega, by show i + 1 ≤ l.length; omega, ?_⟩
    refine ⟨rfl, ?_, ?_⟩
    · (repeat' (first | exact True.intro | rfl | assumption | exact ent_keep _ _ | (refine And.intro ?_ ?_) | (intro _ _; rfl) | ((conv => whnf); (first | exact True.intro | (refine And.intro ?_ ?_)))))
    · (repeat' (first | exact True.intro | rfl | assumption | exact ent_keep _ _ | (refine And.intro ?_ ?_) | (intro _ _; rfl) | ((conv => whnf); (first | exact True.intro | (refine And.intro ?_ ?_)))))
      exact (wrap_inc hi2 (by omega)).symm
  · intro h
    (conv => whnf)
    have hi2 : i = l.length := by have := dec_ge h; omega
    subst hi2
    have ht := List.take_length (l := l)
    refine ⟨((l.take l.length, false), (w, full)), [8, 2], ?_, rfl, ?_, ?_, ?_⟩
    · show (l.take l.length).length < 1000000000
      rw [ht]; omega
    · (repeat' (first | exact True.intro | rfl | assumption | exact ent_keep _ _ | (refine And.intro ?_ ?_) | (intro _ _; rfl) | ((conv => whnf); (first | exact True.intro | (refine And.intro ?_ ?_)))))
    · (repeat' (first | exact True.intro | rfl | assumption | exact ent_keep _ _ | (refine And.intro ?_ ?_) | (intro _ _; rfl) | ((conv => whnf); (first | exact True.intro | (refine And.intro ?_ ?_)))))
    (conv => whnf)
    refine ⟨[], _, _, hR, ?_⟩
    (repeat' (first | exact True.intro | rfl | assumption | exact ent_keep _ _ | (refine And.intro ?_ ?_) | (intro _ _; rfl) | ((conv => whnf); (first | exact True.intro | (refine And.intro ?_ ?_)))))
    exact decide_eq_decide.2 (by rw [show List.take l.length l = l from ht])

theorem con10 : ConOk Try.prog (conOf [(14, SHas.T), (15, SLen.T), (10, SRAdd.T), (12, SRRem.T), (11, SRUse.T), (24, SCopy.T),
    (29, SAdd.T), (31, SRemove.T), (30, SUse.T), (32, SNext.T), (33, SOldest.T), (34, SAt.T),
    (17, SLOld.T), (13, SLNext.T), (20, SLAll.T)]) :=
  conOf_cons (LSpec.call SHas_nt SHas_ok) (conOf_cons (LSpec.call SLen_nt SLen_ok) (conOf_cons (LSpec.call SRAdd_nt SRAdd_ok) (conOf_cons (LSpec.call SRRem_nt SRRem_ok) (conOf_cons (LSpec.call SRUse_nt SRUse_ok) (conOf_cons (LSpec.call SCopy_nt SCopy_ok)
  (conOf_cons (LSpec.call SAdd_nt SAdd_ok) (conOf_cons (LSpec.call SRemove_nt SRemove_ok) (conOf_cons (LSpec.call SUse_nt SUse_ok) (conOf_cons (LSpec.call SNext_nt SNext_ok) (conOf_cons (LSpec.call SOldest_nt SOldest_ok) (conOf_cons (LSpec.call SAt_nt SAt_ok)
  (conOf_cons (LSpec.call SLOld_nt SLOld_ok) (conOf_cons (LSpec.call SLNext_nt SLNext_ok) (conOf_cons (LSpec.call SLAll_nt SLAll_ok) conOf_nil))))))))))))))

def SLooks : LSpec where
  X := (Ent × List Int) × Bool × Int
  k := 3
  pre x := Ring x.1.1 x.1.2 ∧ x.1.2.length < 10000
  args x θ := [.ptr (θ 0) 0, slI (θ 2) x.1.2 x.2.1, i64 x.2.2]
  objs x θ := [rcC (θ 1), rcM x.1.1, rowO x.1.2]
  out x θ R := R (.sb true) [some (rcC (θ 1)), some (rcM x.1.1), some (rowO x.1.2)]
theorem SLooks_nt : SLooks.Nt := ⟨fun _ _ => rfl, by unfold SLooks; (intros; simp only [ren_all] at *; try assumption), by unfold SLooks; (intros; simp only [ren_all] at *; try assumption)⟩
theorem SLooks_ok : SLooks.Ok Try.prog 22 := by
  refine LSpec.of_body noGo mixed con10 Try.func22 rfl (by kernel_rfl) fun ⟨⟨L, l⟩, full, n⟩ R ⟨hp, hlen⟩ hR => ?_
  have hp : Ring L l := hp
  have hlen : l.length < 10000 := hlen
  (conv => whnf)
  refine ⟨(l, full), [2], by show l.length < 100000; omega, rfl, by (repeat' (first | exact True.intro | rfl | assumption | exact ent_keep _ _ | (refine And.intro ?_ ?_) | (intro _ _; rfl) | ((conv => whnf); (first | exact True.intro | (refine And.intro ?_ ?_))))), by (repeat' (first | exact True.intro | rfl | assumption | exact ent_keep _ _ | (refine And.intro ?_ ?_) | (intro _ _; rfl) | ((conv => whnf); (first | exact True.intro | (refine And.intro ?_ ?_))))), ?_⟩
  (conv => whnf)
  refine ⟨((L, l), (l, full)), [0, 1, 2], ⟨hp, by show l.length < 1000000; omega⟩, rfl, by (repeat' (first | exact True.intro | rfl | assumption | exact ent_keep _ _ | (refine And.intro ?_ ?_) | (intro _ _; rfl) | ((conv => whnf); (first | exact True.intro | (refine And.intro ?_ ?_))))), by (repeat' (first | exact True.intro | rfl | assumption | exact ent_keep _ _ | (refine And.intro ?_ ?_) | (intro _ _; rfl) | ((conv => whnf); (first | exact True.intro | (refine And.intro ?_ ?_))))), ?_⟩
  (conv => whnf)
  refine ⟨fun _ => ?_, fun h => absurd h (by simp)⟩
  (conv => whnf)
  refine ⟨(L, l), [0, 1], ⟨hp, by show l.length < 1000000; omega⟩, rfl, by (repeat' (first | exact True.intro | rfl | assumption | exact ent_keep _ _ | (refine And.intro ?_ ?_) | (intro _ _; rfl) | ((conv => whnf); (first | exact True.intro | (refine And.intro ?_ ?_))))), by (repeat' (first | exact True.intro | rfl | assumption | exact ent_keep _ _ | (refine And.intro ?_ ?_) | (intro _ _; rfl) | ((conv => whnf); (first | exact True.intro | (refine And.intro ?_ ?_))))), ?_⟩
  (conv => whnf)
  refine ⟨fun _ => ?_, fun h => absurd h (by simp)⟩
  (conv => whnf)
  refine ⟨((L, l), oldV l, oldE l), [0, 1], ⟨hp, by show l.length < 1000000; omega⟩, rfl, by (repeat' (first | exact True.intro | rfl | assumption | exact ent_keep _ _ | (refine And.intro ?_ ?_) | (intro _ _; rfl) | ((conv => whnf); (first | exact True.intro | (refine And.intro ?_ ?_))))), by (repeat' (first | exact True.intro | rfl | assumption | exact ent_keep _ _ | (refine And.intro ?_ ?_) | (intro _ _; rfl) | ((conv => whnf); (first | exact True.intro | (refine And.intro ?_ ?_))))), ?_⟩
  (conv => whnf)
  refine ⟨fun _ => ?_, fun h => absurd h (by simp)⟩
  (conv => whnf)
  refine ⟨(L, l, n), [0, 1], hp, rfl, by (repeat' (first | exact True.intro | rfl | assumption | exact ent_keep _ _ | (refine And.intro ?_ ?_) | (intro _ _; rfl) | ((conv => whnf); (first | exact True.intro | (refine And.intro ?_ ?_))))), by (repeat' (first | exact True.intro | rfl | assumption | exact ent_keep _ _ | (refine And.intro ?_ ?_) | (intro _ _; rfl) | ((conv => whnf); (first | exact True.intro | (refine And.intro ?_ ?_))))), ?_⟩
  (conv => whnf)
  refine ⟨(l, n, full), [2], by show l.length < 1000000000; omega, rfl, by (repeat' (first | exact True.intro | rfl | assumption | exact ent_keep _ _ | (refine And.intro ?_ ?_) | (intro _ _; rfl) | ((conv => whnf); (first | exact True.intro | (refine And.intro ?_ ?_))))), by (repeat' (first | exact True.intro | rfl | assumption | exact ent_keep _ _ | (refine And.intro ?_ ?_) | (intro _ _; rfl) | ((conv => whnf); (first | exact True.intro | (refine And.intro ?_ ?_))))), ?_⟩
  (conv => whnf)
  have e : ((decide (n ∈ l) == decide (0 ≤ atI l n 0)) == true) = true := by
    have : decide (0 ≤ atI l n 0) = decide (n ∈ l) := decide_eq_decide.2 (atI_ge (l := l) (n := n) (Int.le_refl 0))
    rw [this]
    simp
  refine ⟨[], _, _, hR, ?_⟩
  (repeat' (first | exact True.intro | rfl | assumption | exact ent_keep _ _ | (refine And.intro ?_ ?_) | (intro _ _; rfl) | ((conv => whnf); (first | exact True.intro | (refine And.intro ?_ ?_)))))
  exact e.symm

/-- What a call makes of a list. -/
def acts (l : List Int) (a : Int × Int) : List Int :=
  if a.1 = 0 then (if addE l a.2 = 0 then l ++ [a.2] else l)
  else if a.1 = 1 then (if remE l a.2 = 0 then wo l a.2 ++ [a.2] else l)
  else if a.1 = 2 then (if remE l a.2 = 0 then wo l a.2 else l)
  else l
def actV (a : Int × Int) : V := .agg [.int .i64 a.1, .int .i64 a.2]
/-- Where the ring and the list lie afterwards. -/
def SDo : LSpec where
  X := (Ent × List Int) × Bool × (Int × Int)
  k := 3
  pre x := Ring x.1.1 x.1.2 ∧ x.1.2.length < 10000
  args x θ := [.ptr (θ 0) 0, slI (θ 2) x.1.2 x.2.1, actV x.2.2]
  objs x θ := [rcC (θ 1), rcM x.1.1, rowO x.1.2]
  out x θ R := ∀ L', Ring L' (acts x.1.2 x.2.2) →
    (acts x.1.2 x.2.2 = x.1.2 → R (.tup [.ptr (θ 0) 0, slI (θ 2) x.1.2 x.2.1, .sb true]) [some (rcC (θ 1)), some (rcM L'), some (rowO x.1.2)]) ∧
    R (.tup [.ptr (θ 0) 0, slI (θ 3) (acts x.1.2 x.2.2) false, .sb true]) [some (rcC (θ 1)), some (rcM L'), none, some (rowO (acts x.1.2 x.2.2))] ∧
    (acts x.1.2 x.2.2 = x.1.2 → R (.tup [.ptr (θ 3) 0, slI (θ 2) x.1.2 x.2.1, .sb true]) [none, none, some (rowO x.1.2), some (rcC (θ 4)), some (rcM L')])
theorem SDo_nt : SDo.Nt := ⟨fun _ _ => rfl, by unfold SDo; (intros; simp only [ren_all] at *; try assumption), by unfold SDo; (intros; simp only [ren_all] at *; try assumption)⟩
theorem SDo_ok : SDo.Ok Try.prog 21 := by
  refine LSpec.of_body noGo mixed con10 Try.func21 rfl (by kernel_rfl) fun ⟨⟨L, l⟩, full, a⟩ R ⟨hp, hlen⟩ hR => ?_
  have hp : Ring L l := hp
  have hlen : l.length < 10000 := hlen
  (conv => whnf)
  constructor
  · intro h
    have h : a.1 = 0 := by simpa using h
    (conv => whnf)
    refine ⟨(l, a.2, full), [2], by show l.length < 100000; omega, rfl, by (repeat' (first | exact True.intro | rfl | assumption | exact ent_keep _ _ | (refine And.intro ?_ ?_) | (intro _ _; rfl) | ((conv => whnf); (first | exact True.intro | (refine And.intro ?_ ?_))))), by (repeat' (first | exact True.intro | rfl | assumption | exact ent_keep _ _ | (refine And.intro ?_ ?_) | (intro _ _; rfl) | ((conv => whnf); (first | exact True.intro | (refine And.intro ?_ ?_))))), ?_⟩
    (conv => whnf)
    constructor
    · intro e
      have e : addE l a.2 = 0 := e
      have ea : acts l a = l ++ [a.2] := by simp [acts, h, e]
      (conv => whnf)
      refine ⟨(L, l, a.2), [0, 1], hp, rfl, by (repeat' (first | exact True.intro | rfl | assumption | exact ent_keep _ _ | (refine And.intro ?_ ?_) | (intro _ _; rfl) | ((conv => whnf); (first | exact True.intro | (refine And.intro ?_ ?_))))), by (repeat' (first | exact True.intro | rfl | assumption | exact ent_keep _ _ | (refine And.intro ?_ ?_) | (intro _ _; rfl) | ((conv => whnf); (first | exact True.intro | (refine And.intro ?_ ?_))))), ?_⟩
      (conv => whnf)
      refine ⟨fun _ L' hL' => ?_, fun g => absurd e g⟩
      have hL' : Ring L' (l ++ [a.2]) := hL'
      rw [← ea] at hL'
      (conv => whnf)
      refine ⟨[some 4], _, _, (hR L' hL').2.1, ?_⟩
      (repeat' (first | exact True.intro | rfl | assumption | exact ent_keep _ _ | (refine And.intro ?_ ?_) | (intro _ _; rfl) | ((conv => whnf); (first | exact True.intro | (refine And.intro ?_ ?_)))))
      all_goals first | exact congrArg List.length ea | exact fun j _ => congrArg (rowI · j) ea | trace_state
    · intro e
      have e : ¬ addE l a.2 = 0 := e
      have ea : acts l a = l := by simp [acts, h, e]
      (conv => whnf)
      refine ⟨(L, l, a.2), [0, 1], hp, rfl, by (repeat' (first | exact True.intro | rfl | assumption | exact ent_keep _ _ | (refine And.intro ?_ ?_) | (intro _ _; rfl) | ((conv => whnf); (first | exact True.intro | (refine And.intro ?_ ?_))))), by (repeat' (first | exact True.intro | rfl | assumption | exact ent_keep _ _ | (refine And.intro ?_ ?_) | (intro _ _; rfl) | ((conv => whnf); (first | exact True.intro | (refine And.intro ?_ ?_))))), ?_⟩
      (conv => whnf)
      refine ⟨fun g => absurd g e, fun _ => ?_⟩
      (conv => whnf)
      refine ⟨[], _, _, (hR L (by rw [show acts ((L, l), full, a).fst.snd ((L, l), full, a).snd.snd = l from ea]; exact hp)).1 ea, ?_⟩
      (repeat' (first | exact True.intro | rfl | assumption | exact ent_keep _ _ | (refine And.intro ?_ ?_) | (intro _ _; rfl) | ((conv => whnf); (first | exact True.intro | (refine And.intro ?_ ?_)))))
      all_goals first | (show true = decide _; simp) | trace_state
  · intro h
    have h0 : ¬ a.1 = 0 := by simpa using h
    (conv => whnf)
    constructor
    · intro h
      have h : a.1 = 1 := by simpa using h
      (conv => whnf)
      refine ⟨(l, a.2, full), [2], by show l.length < 100000; omega, rfl, by (repeat' (first | exact True.intro | rfl | assumption | exact ent_keep _ _ | (refine And.intro ?_ ?_) | (intro _ _; rfl) | ((conv => whnf); (first | exact True.intro | (refine And.intro ?_ ?_))))), by (repeat' (first | exact True.intro | rfl | assumption | exact ent_keep _ _ | (refine And.intro ?_ ?_) | (intro _ _; rfl) | ((conv => whnf); (first | exact True.intro | (refine And.intro ?_ ?_))))), ?_⟩
      (conv => whnf)
      constructor
      · intro e
        have e : remE l a.2 = 0 := e
        have ea : acts l a = wo l a.2 ++ [a.2] := by simp [acts, h, e]
        (conv => whnf)
        refine ⟨(L, l, a.2), [0, 1], hp, rfl, by (repeat' (first | exact True.intro | rfl | assumption | exact ent_keep _ _ | (refine And.intro ?_ ?_) | (intro _ _; rfl) | ((conv => whnf); (first | exact True.intro | (refine And.intro ?_ ?_))))), by (repeat' (first | exact True.intro | rfl | assumption | exact ent_keep _ _ | (refine And.intro ?_ ?_) | (intro _ _; rfl) | ((conv => whnf); (first | exact True.intro | (refine And.intro ?_ ?_))))), ?_⟩
        (conv => whnf)
        refine ⟨fun _ L' hL' => ?_, fun g => absurd e g⟩
        have hL' : Ring L' (wo l a.2 ++ [a.2]) := hL'
        rw [← ea] at hL'
        (conv => whnf)
        refine ⟨[some 4], _, _, (hR L' hL').2.1, ?_⟩
        (repeat' (first | exact True.intro | rfl | assumption | exact ent_keep _ _ | (refine And.intro ?_ ?_) | (intro _ _; rfl) | ((conv => whnf); (first | exact True.intro | (refine And.intro ?_ ?_)))))
        all_goals first | exact congrArg List.length ea | exact fun j _ => congrArg (rowI · j) ea | trace_state
      · intro e
        have e : ¬ remE l a.2 = 0 := e
        have ea : acts l a = l := by simp [acts, h, e]
        (conv => whnf)
        refine ⟨(L, l, a.2), [0, 1], hp, rfl, by (repeat' (first | exact True.intro | rfl | assumption | exact ent_keep _ _ | (refine And.intro ?_ ?_) | (intro _ _; rfl) | ((conv => whnf); (first | exact True.intro | (refine And.intro ?_ ?_))))), by (repeat' (first | exact True.intro | rfl | assumption | exact ent_keep _ _ | (refine And.intro ?_ ?_) | (intro _ _; rfl) | ((conv => whnf); (first | exact True.intro | (refine And.intro ?_ ?_))))), ?_⟩
        (conv => whnf)
        refine ⟨fun g => absurd g e, fun _ => ?_⟩
        (conv => whnf)
        refine ⟨[], _, _, (hR L (by rw [show acts ((L, l), full, a).fst.snd ((L, l), full, a).snd.snd = l from ea]; exact hp)).1 ea, ?_⟩
        (repeat' (first | exact True.intro | rfl | assumption | exact ent_keep _ _ | (refine And.intro ?_ ?_) | (intro _ _; rfl) | ((conv => whnf); (first | exact True.intro | (refine And.intro ?_ ?_)))))
        all_goals first | (show true = decide _; simp) | trace_state
    · intro h
      have h1 : ¬ a.1 = 1 := by simpa using h
      (conv => whnf)
      constructor
      · intro h
        have h : a.1 = 2 := by simpa using h
        (conv => whnf)
        refine ⟨(l, a.2, full), [2], by show l.length < 100000; omega, rfl, by (repeat' (first | exact True.intro | rfl | assumption | exact ent_keep _ _ | (refine And.intro ?_ ?_) | (intro _ _; rfl) | ((conv => whnf); (first | exact True.intro | (refine And.intro ?_ ?_))))), by (repeat' (first | exact True.intro | rfl | assumption | exact ent_keep _ _ | (refine And.intro ?_ ?_) | (intro _ _; rfl) | ((conv => whnf); (first | exact True.intro | (refine And.intro ?_ ?_))))), ?_⟩
        (conv => whnf)
        constructor
        · intro e
          have e : remE l a.2 = 0 := e
          have ea : acts l a = wo l a.2 := by simp [acts, h, e]
          (conv => whnf)
          refine ⟨(L, l, a.2), [0, 1], hp, rfl, by (repeat' (first | exact True.intro | rfl | assumption | exact ent_keep _ _ | (refine And.intro ?_ ?_) | (intro _ _; rfl) | ((conv => whnf); (first | exact True.intro | (refine And.intro ?_ ?_))))), by (repeat' (first | exact True.intro | rfl | assumption | exact ent_keep _ _ | (refine And.intro ?_ ?_) | (intro _ _; rfl) | ((conv => whnf); (first | exact True.intro | (refine And.intro ?_ ?_))))), ?_⟩
          (conv => whnf)
          refine ⟨fun _ L' hL' => ?_, fun g => absurd e g⟩
          have hL' : Ring L' (wo l a.2) := hL'
          rw [← ea] at hL'
          (conv => whnf)
          refine ⟨[some 4], _, _, (hR L' hL').2.1, ?_⟩
          (repeat' (first | exact True.intro | rfl | assumption | exact ent_keep _ _ | (refine And.intro ?_ ?_) | (intro _ _; rfl) | ((conv => whnf); (first | exact True.intro | (refine And.intro ?_ ?_)))))
          all_goals first | exact congrArg List.length ea | exact fun j _ => congrArg (rowI · j) ea | trace_state
        · intro e
          have e : ¬ remE l a.2 = 0 := e
          have ea : acts l a = l := by simp [acts, h, e]
          (conv => whnf)
          refine ⟨(L, l, a.2), [0, 1], hp, rfl, by (repeat' (first | exact True.intro | rfl | assumption | exact ent_keep _ _ | (refine And.intro ?_ ?_) | (intro _ _; rfl) | ((conv => whnf); (first | exact True.intro | (refine And.intro ?_ ?_))))), by (repeat' (first | exact True.intro | rfl | assumption | exact ent_keep _ _ | (refine And.intro ?_ ?_) | (intro _ _; rfl) | ((conv => whnf); (first | exact True.intro | (refine And.intro ?_ ?_))))), ?_⟩
          (conv => whnf)
          refine ⟨fun g => absurd g e, fun _ => ?_⟩
          (conv => whnf)
          refine ⟨[], _, _, (hR L (by rw [show acts ((L, l), full, a).fst.snd ((L, l), full, a).snd.snd = l from ea]; exact hp)).1 ea, ?_⟩
          (repeat' (first | exact True.intro | rfl | assumption | exact ent_keep _ _ | (refine And.intro ?_ ?_) | (intro _ _; rfl) | ((conv => whnf); (first | exact True.intro | (refine And.intro ?_ ?_)))))
          all_goals first | (show true = decide _; simp) | trace_state
      · intro h
        have h2 : ¬ a.1 = 2 := by simpa using h
        (conv => whnf)
        have ea : acts l a = l := by simp [acts, h0, h1, h2]
        have hL : Ring L (acts l a) := by rw [ea]; exact hp
        constructor
        · intro h
          (conv => whnf)
          refine ⟨(l, a.2, full), [2], by show l.length < 100000; omega, rfl, by (repeat' (first | exact True.intro | rfl | assumption | exact ent_keep _ _ | (refine And.intro ?_ ?_) | (intro _ _; rfl) | ((conv => whnf); (first | exact True.intro | (refine And.intro ?_ ?_))))), by (repeat' (first | exact True.intro | rfl | assumption | exact ent_keep _ _ | (refine And.intro ?_ ?_) | (intro _ _; rfl) | ((conv => whnf); (first | exact True.intro | (refine And.intro ?_ ?_))))), ?_⟩
          (conv => whnf)
          refine ⟨((L, l), a.2, nextV l a.2, nextE l a.2), [0, 1], hp, rfl, by (repeat' (first | exact True.intro | rfl | assumption | exact ent_keep _ _ | (refine And.intro ?_ ?_) | (intro _ _; rfl) | ((conv => whnf); (first | exact True.intro | (refine And.intro ?_ ?_))))), by (repeat' (first | exact True.intro | rfl | assumption | exact ent_keep _ _ | (refine And.intro ?_ ?_) | (intro _ _; rfl) | ((conv => whnf); (first | exact True.intro | (refine And.intro ?_ ?_))))), ?_⟩
          (conv => whnf)
          refine ⟨[], _, _, (hR L hL).1 ea, ?_⟩
          (repeat' (first | exact True.intro | rfl | assumption | exact ent_keep _ _ | (refine And.intro ?_ ?_) | (intro _ _; rfl) | ((conv => whnf); (first | exact True.intro | (refine And.intro ?_ ?_)))))
          all_goals first | (show true = decide _; simp) | trace_state
        · intro h
          (conv => whnf)
          refine ⟨L, [0, 1], trivial, rfl, by (repeat' (first | exact True.intro | rfl | assumption | exact ent_keep _ _ | (refine And.intro ?_ ?_) | (intro _ _; rfl) | ((conv => whnf); (first | exact True.intro | (refine And.intro ?_ ?_))))), by (repeat' (first | exact True.intro | rfl | assumption | exact ent_keep _ _ | (refine And.intro ?_ ?_) | (intro _ _; rfl) | ((conv => whnf); (first | exact True.intro | (refine And.intro ?_ ?_))))), ?_⟩
          (conv => whnf)
          refine ⟨(L, l, 77), [0, 1], hp, rfl, by (repeat' (first | exact True.intro | rfl | assumption | exact ent_keep _ _ | (refine And.intro ?_ ?_) | (intro _ _; rfl) | ((conv => whnf); (first | exact True.intro | (refine And.intro ?_ ?_))))), by (repeat' (first | exact True.intro | rfl | assumption | exact ent_keep _ _ | (refine And.intro ?_ ?_) | (intro _ _; rfl) | ((conv => whnf); (first | exact True.intro | (refine And.intro ?_ ?_))))), ?_⟩
          (conv => whnf)
          refine ⟨fun _ L1 h1 => ?_, fun _ => ?_⟩
          · (conv => whnf)
            refine ⟨(L1, l ++ [77], 1), [0, 1], h1, rfl, by (repeat' (first | exact True.intro | rfl | assumption | exact ent_keep _ _ | (refine And.intro ?_ ?_) | (intro _ _; rfl) | ((conv => whnf); (first | exact True.intro | (refine And.intro ?_ ?_))))), by (repeat' (first | exact True.intro | rfl | assumption | exact ent_keep _ _ | (refine And.intro ?_ ?_) | (intro _ _; rfl) | ((conv => whnf); (first | exact True.intro | (refine And.intro ?_ ?_))))), ?_⟩
            (conv => whnf)
            refine ⟨fun _ L2 h2 => ?_, fun _ => ?_⟩
            · (conv => whnf)
              refine ⟨(L2, wo (l ++ [77]) 1 ++ [1], 0), [0, 1], h2, rfl, by (repeat' (first | exact True.intro | rfl | assumption | exact ent_keep _ _ | (refine And.intro ?_ ?_) | (intro _ _; rfl) | ((conv => whnf); (first | exact True.intro | (refine And.intro ?_ ?_))))), by (repeat' (first | exact True.intro | rfl | assumption | exact ent_keep _ _ | (refine And.intro ?_ ?_) | (intro _ _; rfl) | ((conv => whnf); (first | exact True.intro | (refine And.intro ?_ ?_))))), ?_⟩
              (conv => whnf)
              refine ⟨fun _ L3 h3 => ?_, fun _ => ?_⟩
              · (conv => whnf)
                refine ⟨[some 4, some 5], _, _, (hR L hL).2.2 ea, ?_⟩
                (repeat' (first | exact True.intro | rfl | assumption | exact ent_keep _ _ | (refine And.intro ?_ ?_) | (intro _ _; rfl) | ((conv => whnf); (first | exact True.intro | (refine And.intro ?_ ?_)))))
              · (conv => whnf)
                refine ⟨[some 4, some 5], _, _, (hR L hL).2.2 ea, ?_⟩
                (repeat' (first | exact True.intro | rfl | assumption | exact ent_keep _ _ | (refine And.intro ?_ ?_) | (intro _ _; rfl) | ((conv => whnf); (first | exact True.intro | (refine And.intro ?_ ?_)))))
            · (conv => whnf)
              refine ⟨(L1, l ++ [77], 0), [0, 1], h1, rfl, by (repeat' (first | exact True.intro | rfl | assumption | exact ent_keep _ _ | (refine And.intro ?_ ?_) | (intro _ _; rfl) | ((conv => whnf); (first | exact True.intro | (refine And.intro ?_ ?_))))), by (repeat' (first | exact True.intro | rfl | assumption | exact ent_keep _ _ | (refine And.intro ?_ ?_) | (intro _ _; rfl) | ((conv => whnf); (first | exact True.intro | (refine And.intro ?_ ?_))))), ?_⟩
              (conv => whnf)
              refine ⟨fun _ L3 h3 => ?_, fun _ => ?_⟩
              · (conv => whnf)
                refine ⟨[some 4, some 5], _, _, (hR L hL).2.2 ea, ?_⟩
                (repeat' (first | exact True.intro | rfl | assumption | exact ent_keep _ _ | (refine And.intro ?_ ?_) | (intro _ _; rfl) | ((conv => whnf); (first | exact True.intro | (refine And.intro ?_ ?_)))))
              · (conv => whnf)
                refine ⟨[some 4, some 5], _, _, (hR L hL).2.2 ea, ?_⟩
                (repeat' (first | exact True.intro | rfl | assumption | exact ent_keep _ _ | (refine And.intro ?_ ?_) | (intro _ _; rfl) | ((conv => whnf); (first | exact True.intro | (refine And.intro ?_ ?_)))))
          · (conv => whnf)
            refine ⟨(L, l, 1), [0, 1], hp, rfl, by (repeat' (first | exact True.intro | rfl | assumption | exact ent_keep _ _ | (refine And.intro ?_ ?_) | (intro _ _; rfl) | ((conv => whnf); (first | exact True.intro | (refine And.intro ?_ ?_))))), by (repeat' (first | exact True.intro | rfl | assumption | exact ent_keep _ _ | (refine And.intro ?_ ?_) | (intro _ _; rfl) | ((conv => whnf); (first | exact True.intro | (refine And.intro ?_ ?_))))), ?_⟩
            (conv => whnf)
            refine ⟨fun _ L2 h2 => ?_, fun _ => ?_⟩
            · (conv => whnf)
              refine ⟨(L2, wo (l) 1 ++ [1], 0), [0, 1], h2, rfl, by (repeat' (first | exact True.intro | rfl | assumption | exact ent_keep _ _ | (refine And.intro ?_ ?_) | (intro _ _; rfl) | ((conv => whnf); (first | exact True.intro | (refine And.intro ?_ ?_))))), by (repeat' (first | exact True.intro | rfl | assumption | exact ent_keep _ _ | (refine And.intro ?_ ?_) | (intro _ _; rfl) | ((conv => whnf); (first | exact True.intro | (refine And.intro ?_ ?_))))), ?_⟩
              (conv => whnf)
              refine ⟨fun _ L3 h3 => ?_, fun _ => ?_⟩
              · (conv => whnf)
                refine ⟨[some 4, some 5], _, _, (hR L hL).2.2 ea, ?_⟩
                (repeat' (first | exact True.intro | rfl | assumption | exact ent_keep _ _ | (refine And.intro ?_ ?_) | (intro _ _; rfl) | ((conv => whnf); (first | exact True.intro | (refine And.intro ?_ ?_)))))
              · (conv => whnf)
                refine ⟨[some 4, some 5], _, _, (hR L hL).2.2 ea, ?_⟩
                (repeat' (first | exact True.intro | rfl | assumption | exact ent_keep _ _ | (refine And.intro ?_ ?_) | (intro _ _; rfl) | ((conv => whnf); (first | exact True.intro | (refine And.intro ?_ ?_)))))
            · (conv => whnf)
              refine ⟨(L, l, 0), [0, 1], hp, rfl, by (repeat' (first | exact True.intro | rfl | assumption | exact ent_keep _ _ | (refine And.intro ?_ ?_) | (intro _ _; rfl) | ((conv => whnf); (first | exact True.intro | (refine And.intro ?_ ?_))))), by (repeat' (first | exact True.intro | rfl | assumption | exact ent_keep _ _ | (refine And.intro ?_ ?_) | (intro _ _; rfl) | ((conv => whnf); (first | exact True.intro | (refine And.intro ?_ ?_))))), ?_⟩
              (conv => whnf)
              refine ⟨fun _ L3 h3 => ?_, fun _ => ?_⟩
              · (conv => whnf)
                refine ⟨[some 4, some 5], _, _, (hR L hL).2.2 ea, ?_⟩
                (repeat' (first | exact True.intro | rfl | assumption | exact ent_keep _ _ | (refine And.intro ?_ ?_) | (intro _ _; rfl) | ((conv => whnf); (first | exact True.intro | (refine And.intro ?_ ?_)))))
              · (conv => whnf)
                refine ⟨[some 4, some 5], _, _, (hR L hL).2.2 ea, ?_⟩
                (repeat' (first | exact True.intro | rfl | assumption | exact ent_keep _ _ | (refine And.intro ?_ ?_) | (intro _ _; rfl) | ((conv => whnf); (first | exact True.intro | (refine And.intro ?_ ?_)))))
end Go.Proofs.Ytollflfkgcgdkaa
