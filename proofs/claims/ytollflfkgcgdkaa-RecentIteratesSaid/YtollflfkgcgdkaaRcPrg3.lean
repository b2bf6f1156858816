/- What the functions of package recent compute: the questions. -/
import Derived.Test.YtollflfkgcgdkaaRcPrg2
namespace Go.Proofs.Ytollflfkgcgdkaa
open Go Sy
set_option maxRecDepth 100000

theorem seg_at {M : Int → Option (Int × Int)} : ∀ {l : List Int} {p q : Int}, Seg M p l q → ∀ i, i < l.length → ∃ u, M (l.getD i 0) = some (u, l.getD (i + 1) q)
  | x :: l, p, q, ⟨h1, h2⟩, 0, _ => ⟨p, by rw [show (x :: l).getD 0 0 = x from rfl, h1]; cases l <;> rfl⟩
  | x :: l, p, q, ⟨h1, h2⟩, i + 1, h => by
    obtain ⟨u, hu⟩ := seg_at h2 i (by simpa using h)
    exact ⟨u, by simpa using hu⟩
  | [], _, _, _, _, h => by simp at h
theorem Ring.at {L : Ent} {l : List Int} (h : Ring L l) {i : Nat} (hi : i < l.length) : ∃ u, lk L (l.getD i 0) = some (u, l.getD (i + 1) (-1)) := seg_at h.seg i hi
theorem Ring.mem_at {L : Ent} {l : List Int} (h : Ring L l) {n : Int} (hn : n ∈ l) : ∃ u, lk L n = some (u, l.getD (atI l n 0 + 1).toNat (-1)) := by
  obtain ⟨k, h1, h2, h3, h4⟩ := atI_at (i := 0) hn
  obtain ⟨u, hu⟩ := h.at h2
  refine ⟨u, ?_⟩
  rw [h3] at hu
  rw [hu, h1, show (0 + (k : Int) + 1).toNat = k + 1 by omega]

def SLen : LSpec where
  X := Ent × List Int
  k := 2
  pre x := Ring x.1 x.2 ∧ x.2.length < 1000000
  args _ θ := [.ptr (θ 0) 0]
  objs x θ := [rcC (θ 1), rcM x.1]
  out x θ R := R (i64 x.2.length) [some (rcC (θ 1)), some (rcM x.1)]
theorem SLen_nt : SLen.Nt := ⟨fun _ _ => rfl, by unfold SLen; (intros; simp only [ren_all] at *; try assumption), by unfold SLen; (intros; simp only [ren_all] at *; try assumption)⟩
theorem SLen_ok : SLen.Ok Try.prog 15 := by
  refine LSpec.of_body noGo mixed con3 Try.func15 rfl (by kernel_rfl) fun ⟨L, l⟩ R ⟨hp, hlen⟩ hR => ?_
  have hp : Ring L l := hp
  have hlen : l.length < 1000000 := hlen
  (conv => whnf)
  refine ⟨[], _, _, hR, ?_⟩
  (repeat' (first | exact True.intro | rfl | assumption | exact ent_keep _ _ | (refine And.intro ?_ ?_) | (intro _ _; rfl) | ((conv => whnf); (first | exact True.intro | (refine And.intro ?_ ?_)))))
  show (l.length : Int) = IntKind.wrap .i64 (((entE L).length : Int) - 1)
  have : (entE L).length = l.length + 1 := by rw [entE, List.length_map, hp.len]
  rw [this, wrap_id (by omega) (by omega)]
  omega
theorem con7 : ConOk Try.prog (conOf [(27, inl Try.prog (conOf []) Try.f27), (15, SLen.T), (25, SCheck.T)]) :=
  conOf_cons (inl_ok noGo mixed conOf_nil Try.func27 (by kernel_rfl)) (conOf_cons (LSpec.call SLen_nt SLen_ok) (conOf_cons (LSpec.call SCheck_nt SCheck_ok) conOf_nil))

def SROld : LSpec where
  X := Ent × List Int
  k := 2
  pre x := Ring x.1 x.2 ∧ x.2.length < 1000000
  args _ θ := [.ptr (θ 0) 0]
  objs x θ := [rcC (θ 1), rcM x.1]
  out x θ R := R (.tup [i64 (oldV x.2), i64 (oldE x.2)]) [some (rcC (θ 1)), some (rcM x.1)]
theorem SROld_nt : SROld.Nt := ⟨fun _ _ => rfl, by unfold SROld; (intros; simp only [ren_all] at *; try assumption), by unfold SROld; (intros; simp only [ren_all] at *; try assumption)⟩
theorem SROld_ok : SROld.Ok Try.prog 18 := by
  refine LSpec.of_body noGo mixed con7 Try.func18 rfl (by kernel_rfl) fun ⟨L, l⟩ R ⟨hp, hlen⟩ hR => ?_
  have hp : Ring L l := hp
  (conv => whnf)
  refine ⟨(L, l), [0, 1], ⟨hp, hlen⟩, rfl, by (repeat' (first | exact True.intro | rfl | assumption | exact ent_keep _ _ | (refine And.intro ?_ ?_) | (intro _ _; rfl) | ((conv => whnf); (first | exact True.intro | (refine And.intro ?_ ?_))))), by (repeat' (first | exact True.intro | rfl | assumption | exact ent_keep _ _ | (refine And.intro ?_ ?_) | (intro _ _; rfl) | ((conv => whnf); (first | exact True.intro | (refine And.intro ?_ ?_))))), ?_⟩
  (conv => whnf)
  constructor
  · intro h
    have h : l.length = 0 := by have : (l.length : Int) = 0 := by simpa using h
                                omega
    have e : oldE l = 9 := if_pos h
    have e2 : oldV l = 0 := by rw [List.eq_nil_of_length_eq_zero h]; rfl
    (conv => whnf)
    refine ⟨[], _, _, hR, ?_⟩
    (repeat' (first | exact True.intro | rfl | assumption | exact ent_keep _ _ | (refine And.intro ?_ ?_) | (intro _ _; rfl) | ((conv => whnf); (first | exact True.intro | (refine And.intro ?_ ?_)))))
  · intro h
    have h : ¬ l.length = 0 := fun g => by simp [g] at h
    have e : oldE l = 0 := if_neg h
    (conv => whnf)
    constructor
    · intro v hv
      obtain ⟨p, hq, rfl⟩ := getE_some (L := L) (n := -1) hv
      have e2 : oldV l = p.2 := by
        rw [hp.last, Option.some.injEq] at hq
        subst hq
        cases l with
        | nil => simp at h
        | cons x l => rfl
      (conv => whnf)
      refine ⟨[], _, _, hR, ?_⟩
      (repeat' (first | exact True.intro | rfl | assumption | exact ent_keep _ _ | (refine And.intro ?_ ?_) | (intro _ _; rfl) | ((conv => whnf); (first | exact True.intro | (refine And.intro ?_ ?_)))))
    · intro hv
      have hq := getE_none (L := L) (n := -1) hv
      rw [hp.last] at hq
      cases hq

def SRNext : LSpec where
  X := Ent × List Int × Int
  k := 2
  pre x := Ring x.1 x.2.1
  args x θ := [.ptr (θ 0) 0, i64 x.2.2]
  objs x θ := [rcC (θ 1), rcM x.1]
  out x θ R := R (.tup [i64 (nextV x.2.1 x.2.2), i64 (nextE x.2.1 x.2.2)]) [some (rcC (θ 1)), some (rcM x.1)]
theorem SRNext_nt : SRNext.Nt := ⟨fun _ _ => rfl, by unfold SRNext; (intros; simp only [ren_all] at *; try assumption), by unfold SRNext; (intros; simp only [ren_all] at *; try assumption)⟩
theorem SRNext_ok : SRNext.Ok Try.prog 19 := by
  refine LSpec.of_body noGo mixed con7 Try.func19 rfl (by kernel_rfl) fun ⟨L, l, n⟩ R hp hR => ?_
  have hp : Ring L l := hp
  (conv => whnf)
  refine ⟨(L, l, n, true), [0, 1], hp, rfl, by (repeat' (first | exact True.intro | rfl | assumption | exact ent_keep _ _ | (refine And.intro ?_ ?_) | (intro _ _; rfl) | ((conv => whnf); (first | exact True.intro | (refine And.intro ?_ ?_))))), by (repeat' (first | exact True.intro | rfl | assumption | exact ent_keep _ _ | (refine And.intro ?_ ?_) | (intro _ _; rfl) | ((conv => whnf); (first | exact True.intro | (refine And.intro ?_ ?_))))), ?_⟩
  (conv => whnf)
  constructor
  · intro h
    have h : ¬ remE l n = 0 := by simpa [chkE] using h
    have e : nextE l n = remE l n := by
      unfold nextE
      unfold remE at h ⊢
      split
      · rfl
      · split
        · rfl
        · rename_i h1 h2
          rw [if_neg h1, if_neg h2] at h
          exact absurd rfl h
    have e2 : nextV l n = 0 := by unfold nextV; rw [e, if_neg h]
    (conv => whnf)
    refine ⟨[], _, _, hR, ?_⟩
    (repeat' (first | exact True.intro | rfl | assumption | exact ent_keep _ _ | (refine And.intro ?_ ?_) | (intro _ _; rfl) | ((conv => whnf); (first | exact True.intro | (refine And.intro ?_ ?_)))))
  · intro h
    have h : remE l n = 0 := by simpa [chkE] using h
    have hs : slot n := Decidable.byContradiction fun g => by rw [remE, if_pos g] at h; omega
    have hl : n ∈ l := Decidable.byContradiction fun g => by rw [remE, if_neg (by simpa using hs), if_pos g] at h; omega
    obtain ⟨k, hk, hkl, hkn, _⟩ := atI_at (i := 0) hl
    (conv => whnf)
    constructor
    · intro v hv
      obtain ⟨p, hq, rfl⟩ := getE_some (L := L) (n := n) hv
      obtain ⟨u, hu⟩ := hp.at hkl
      rw [hkn, hq, Option.some.injEq] at hu
      (conv => whnf)
      have e1 : (atI l n 0 + 1).toNat = k + 1 := by omega
      constructor
      · intro h2
        have h2 : p.2 = -1 := by simpa using h2
        have hlast : k + 1 = l.length := by
          rcases Nat.lt_or_ge (k + 1) l.length with a | a
          · exfalso
            have hm : l.getD (k + 1) (-1) ∈ l := by simp [a]
            rw [← show p.2 = l.getD (k + 1) (-1) from congrArg Prod.snd hu, h2] at hm
            exact hp.end hm
          · omega
        have e : nextE l n = 16 := by unfold nextE; rw [if_neg (by simpa using hs), if_neg (by simpa using hl), if_pos (by omega)]
        have e2 : nextV l n = 0 := by unfold nextV; rw [if_neg (by omega)]
        (conv => whnf)
        refine ⟨[], _, _, hR, ?_⟩
        (repeat' (first | exact True.intro | rfl | assumption | exact ent_keep _ _ | (refine And.intro ?_ ?_) | (intro _ _; rfl) | ((conv => whnf); (first | exact True.intro | (refine And.intro ?_ ?_)))))
      · intro h2
        have h2 : ¬ p.2 = -1 := by simpa using h2
        have hlast : k + 1 < l.length := by
          rcases Nat.lt_or_ge (k + 1) l.length with a | a
          · exact a
          · exfalso
            apply h2
            rw [hu]
            simp [a]
        have e : nextE l n = 0 := by unfold nextE; rw [if_neg (by simpa using hs), if_neg (by simpa using hl), if_neg (by omega)]
        have e2 : nextV l n = p.2 := by
          unfold nextV
          rw [if_pos e, e1, hu]
          simp [hlast]
        (conv => whnf)
        refine ⟨[], _, _, hR, ?_⟩
        (repeat' (first | exact True.intro | rfl | assumption | exact ent_keep _ _ | (refine And.intro ?_ ?_) | (intro _ _; rfl) | ((conv => whnf); (first | exact True.intro | (refine And.intro ?_ ?_)))))
    · intro hv
      have hq := getE_none (L := L) (n := n) hv
      exact absurd hq ((hp.has n).2 (.inr hl))

theorem con8 : ConOk Try.prog (conOf [(27, inl Try.prog (conOf []) Try.f27), (35, inl Try.prog (conOf []) Try.f35), (36, inl Try.prog (conOf [(39, cloneT)]) Try.f36)]) :=
  conOf_cons (inl_ok noGo mixed conOf_nil Try.func27 (by kernel_rfl)) (conOf_cons (inl_ok noGo mixed conOf_nil Try.func35 (by kernel_rfl)) (conOf_cons (inl_ok noGo mixed (conOf_cons (clone_ok Try.func39 rfl rfl (by kernel_rfl)) conOf_nil) Try.func36 (by kernel_rfl)) conOf_nil))
def SRAll : LSpec where
  X := Ent × List Int
  k := 2
  pre x := Ring x.1 x.2 ∧ x.2.length < 1000000
  args _ θ := [.ptr (θ 0) 0]
  objs x θ := [rcC (θ 1), rcM x.1]
  out x θ R := R (.fn (.func 38) [] [.ptr (θ 3) 0]) [some (rcC (θ 1)), some (rcM x.1), some (rowO x.2), some (.cells [slI (θ 2) x.2 false] 36)]
theorem SRAll_nt : SRAll.Nt := ⟨fun _ _ => rfl, by unfold SRAll; (intros; simp only [ren_all] at *; try assumption), by unfold SRAll; (intros; simp only [ren_all] at *; try assumption)⟩
theorem SRAll_ok : SRAll.Ok Try.prog 23 := by
  refine LSpec.of_body noGo mixed con8 Try.func23 rfl (by kernel_rfl) fun ⟨L, l⟩ R ⟨hp, hlen⟩ hR => ?_
  have hp : Ring L l := hp
  have hlen : l.length < 1000000 := hlen
  (conv => whnf)
  constructor
  · intro v hv
    obtain ⟨p, hq, rfl⟩ := getE_some (L := L) (n := -1) hv
    have hh : p.2 = l.getD 0 (-1) := by
      rw [hp.last, Option.some.injEq] at hq
      subst hq
      cases l <;> rfl
    (conv => whnf)
    refine .inl ⟨Nat, fun i => [(0, .ptr 0 0), (3, slI 2 (l.take i) false), (4, i64 (l.getD i (-1)))], fun i => [some (rcC 1), some (rcM L), some (rowO (l.take i))], fun i => l.length - i, fun i => i ≤ l.length, 3, ⟨0, [none], ?_, ?_⟩, fun _ => rfl, fun i hi => ?_⟩
    · simp
    · (repeat' (first | exact True.intro | rfl | assumption | exact ent_keep _ _ | (refine And.intro ?_ ?_) | (intro _ _; rfl) | ((conv => whnf); (first | exact True.intro | (refine And.intro ?_ ?_)))))
      exact hh.symm
    have hi : i ≤ l.length := hi
    (conv => whnf)
    constructor
    · intro h
      have h : ¬ l.getD i (-1) = -1 := by simpa using h
      have hi2 : i < l.length := by
        rcases Nat.lt_or_ge i l.length with a | a
        · exact a
        · exact absurd (by simp [a]) h
      have hw : (l.take i).length ≤ i := by rw [List.length_take]; omega
      (conv => whnf)
      refine ⟨some (rowI (l.take (i + 1))), ?_⟩
      (conv => whnf)
      refine ⟨by simp, by simp, app_small (by omega), fun q hq => ?_, ?_⟩
      · rw [List.take_succ_eq_append_getElem hi2]
        have : l.getD i (-1) = l[i] := by simp [hi2]
        rw [← this]
        exact rowI_push _ _ q hq
      (conv => whnf)
      constructor
      · intro v hv
        obtain ⟨p, hq, rfl⟩ := getE_some (L := L) (n := l.getD i (-1)) hv
        have hh : p.2 = l.getD (i + 1) (-1) := by
          obtain ⟨u, hu⟩ := hp.at hi2
          have : l.getD i (-1) = l.getD i 0 := by simp [hi2]
          rw [this, hu, Option.some.injEq] at hq
          rw [← hq]
        (conv => whnf)
        refine ⟨i + 1, [some 4], by show l.length - (i + 1) < l.length - i; omega, by show i + 1 ≤ l.length; omega, ?_⟩
        have e1 : (l.take (i + 1)).length = (l.take i).length + 1 := by rw [List.length_take, List.length_take]; omega
        refine ⟨rfl, ?_, ?_⟩
        · (repeat' (first | exact True.intro | rfl | assumption | exact ent_keep _ _ | (refine And.intro ?_ ?_) | (intro _ _; rfl) | ((conv => whnf); (first | exact True.intro | (refine And.intro ?_ ?_)))))
        · (repeat' (first | exact True.intro | rfl | assumption | exact ent_keep _ _ | (refine And.intro ?_ ?_) | (intro _ _; rfl) | ((conv => whnf); (first | exact True.intro | (refine And.intro ?_ ?_)))))
          exact hh.symm
      · intro hv
        have hq := getE_none (L := L) (n := l.getD i (-1)) hv
        have hm : l.getD i (-1) ∈ l := by simp [hi2]
        exact absurd hq ((hp.has _).2 (.inr hm))
    · intro h
      have h : l.getD i (-1) = -1 := by simpa using h
      have hi2 : i = l.length := by
        rcases Nat.lt_or_ge i l.length with a | a
        · have hm : l.getD i (-1) ∈ l := by simp [a]
          rw [h] at hm
          exact absurd hm hp.end
        · omega
      (conv => whnf)
      have ht : l = l.take i := by rw [hi2, List.take_length]
      refine ⟨[some 2, some 3], _, _, hR, ?_⟩
      (repeat' (first | exact True.intro | rfl | assumption | exact ent_keep _ _ | (refine And.intro ?_ ?_) | (intro _ _; rfl) | ((conv => whnf); (first | exact True.intro | (refine And.intro ?_ ?_)))))
      all_goals first | exact congrArg List.length ht | exact fun j _ => congrArg (rowI · j) ht
  · intro hv
    have hq := getE_none (L := L) (n := -1) hv
    rw [hp.last] at hq
    cases hq

def SCopy : LSpec where
  X := Ent
  k := 2
  pre _ := True
  args _ θ := [.ptr (θ 0) 0]
  objs L θ := [rcC (θ 1), rcM L]
  out L θ R := R (.ptr (θ 2) 0) [some (rcC (θ 1)), some (rcM L), some (rcC (θ 3)), some (rcM L)]
theorem SCopy_nt : SCopy.Nt := ⟨fun _ _ => rfl, by unfold SCopy; (intros; simp only [ren_all] at *; try assumption), by unfold SCopy; (intros; simp only [ren_all] at *; try assumption)⟩
theorem SCopy_ok : SCopy.Ok Try.prog 24 := by
  refine LSpec.of_body noGo mixed con8 Try.func24 rfl (by kernel_rfl) fun L R _ hR => ?_
  (conv => whnf)
  refine ⟨[some 3, some 2], _, _, hR, ?_⟩
  (repeat' (first | exact True.intro | rfl | assumption | exact ent_keep _ _ | (refine And.intro ?_ ?_) | (intro _ _; rfl) | ((conv => whnf); (first | exact True.intro | (refine And.intro ?_ ?_)))))
end Go.Proofs.Ytollflfkgcgdkaa
