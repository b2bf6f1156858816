/- What the functions of package recent compute: the changes. -/
import Derived.Test.YtollflfkgcgdkaaRcPrg
namespace Go.Proofs.Ytollflfkgcgdkaa
open Go Sy
set_option maxRecDepth 100000

theorem con4 : ConOk Try.prog (conOf [(27, inl Try.prog (conOf []) Try.f27), (14, SHas.T), (26, SJoin.T)]) :=
  conOf_cons (inl_ok noGo mixed conOf_nil Try.func27 (by kernel_rfl)) (conOf_cons (LSpec.call SHas_nt SHas_ok) (conOf_cons (LSpec.call SJoin_nt SJoin_ok) conOf_nil))

def chkE (l : List Int) (n : Int) (there : Bool) : Int := if there then remE l n else addE l n
def SCheck : LSpec where
  X := Ent × List Int × Int × Bool
  k := 2
  pre x := Ring x.1 x.2.1
  args x θ := [.ptr (θ 0) 0, i64 x.2.2.1, .sb x.2.2.2]
  objs x θ := [rcC (θ 1), rcM x.1]
  out x θ R := R (i64 (chkE x.2.1 x.2.2.1 x.2.2.2)) [some (rcC (θ 1)), some (rcM x.1)]
theorem SCheck_nt : SCheck.Nt := ⟨fun _ _ => rfl, by unfold SCheck; (intros; simp only [ren_all] at *; try assumption), by unfold SCheck; (intros; simp only [ren_all] at *; try assumption)⟩
theorem SCheck_ok : SCheck.Ok Try.prog 25 := by
  refine LSpec.of_body noGo mixed con4 Try.func25 rfl (by kernel_rfl) fun ⟨L, l, n, there⟩ R hp hR => ?_
  have hp : Ring L l := hp
  (conv => whnf)
  constructor
  · intro h
    have h : ¬ n < 0 := by simpa using h
    (conv => whnf)
    constructor
    · intro h2
      have h2 : n ≥ 1048576 := by simpa using h2
      have e : chkE l n there = 2 := by
        have : ¬ slot n := fun g => by have := g.2; omega
        cases there <;> simp [chkE, remE, addE, this]
      (conv => whnf)
      refine ⟨[], _, _, hR, ?_⟩
      (repeat' (first | exact True.intro | rfl | assumption | exact ent_keep _ _ | (refine And.intro ?_ ?_) | (intro _ _; rfl) | ((conv => whnf); (first | exact True.intro | (refine And.intro ?_ ?_)))))
    · intro h2
      have h2 : ¬ n ≥ 1048576 := by simpa using h2
      have hs : slot n := ⟨by omega, by omega⟩
      (conv => whnf)
      constructor
      · intro ht
        have ht : there = true := ht
        subst ht
        (conv => whnf)
        refine ⟨(L, l, n), [0, 1], hp, rfl, by (repeat' (first | exact True.intro | rfl | assumption | exact ent_keep _ _ | (refine And.intro ?_ ?_) | (intro _ _; rfl) | ((conv => whnf); (first | exact True.intro | (refine And.intro ?_ ?_))))), by (repeat' (first | exact True.intro | rfl | assumption | exact ent_keep _ _ | (refine And.intro ?_ ?_) | (intro _ _; rfl) | ((conv => whnf); (first | exact True.intro | (refine And.intro ?_ ?_))))), ?_⟩
        (conv => whnf)
        constructor
        · intro h3
          have h3 : ¬ n ∈ l := by simpa using h3
          have e : chkE l n true = 9 := by simp [chkE, remE, hs, h3]
          (conv => whnf)
          refine ⟨[], _, _, hR, ?_⟩
          (repeat' (first | exact True.intro | rfl | assumption | exact ent_keep _ _ | (refine And.intro ?_ ?_) | (intro _ _; rfl) | ((conv => whnf); (first | exact True.intro | (refine And.intro ?_ ?_)))))
        · intro h3
          have h3 : n ∈ l := by simpa using h3
          have e : chkE l n true = 0 := by simp [chkE, remE, hs, h3]
          (conv => whnf)
          refine ⟨fun h => Bool.noConfusion (show false = true from h), fun _ => ?_⟩
          (conv => whnf)
          refine ⟨[], _, _, hR, ?_⟩
          (repeat' (first | exact True.intro | rfl | assumption | exact ent_keep _ _ | (refine And.intro ?_ ?_) | (intro _ _; rfl) | ((conv => whnf); (first | exact True.intro | (refine And.intro ?_ ?_)))))
      · intro ht
        have ht : there = false := ht
        subst ht
        (conv => whnf)
        refine ⟨fun _ => ?_, fun h => Bool.noConfusion (show true = false from h)⟩
        (conv => whnf)
        refine ⟨(L, l, n), [0, 1], hp, rfl, by (repeat' (first | exact True.intro | rfl | assumption | exact ent_keep _ _ | (refine And.intro ?_ ?_) | (intro _ _; rfl) | ((conv => whnf); (first | exact True.intro | (refine And.intro ?_ ?_))))), by (repeat' (first | exact True.intro | rfl | assumption | exact ent_keep _ _ | (refine And.intro ?_ ?_) | (intro _ _; rfl) | ((conv => whnf); (first | exact True.intro | (refine And.intro ?_ ?_))))), ?_⟩
        (conv => whnf)
        constructor
        · intro h3
          have h3 : n ∈ l := by simpa using h3
          have e : chkE l n false = 11 := by simp [chkE, addE, hs, h3]
          (conv => whnf)
          refine ⟨[], _, _, hR, ?_⟩
          (repeat' (first | exact True.intro | rfl | assumption | exact ent_keep _ _ | (refine And.intro ?_ ?_) | (intro _ _; rfl) | ((conv => whnf); (first | exact True.intro | (refine And.intro ?_ ?_)))))
        · intro h3
          have h3 : ¬ n ∈ l := by simpa using h3
          have e : chkE l n false = 0 := by simp [chkE, addE, hs, h3]
          (conv => whnf)
          refine ⟨[], _, _, hR, ?_⟩
          (repeat' (first | exact True.intro | rfl | assumption | exact ent_keep _ _ | (refine And.intro ?_ ?_) | (intro _ _; rfl) | ((conv => whnf); (first | exact True.intro | (refine And.intro ?_ ?_)))))
  · intro h
    have h : n < 0 := by simpa using h
    have e : chkE l n there = 2 := by
      have : ¬ slot n := fun g => by have := g.1; omega
      cases there <;> simp [chkE, remE, addE, this]
    (conv => whnf)
    refine ⟨[], _, _, hR, ?_⟩
    (repeat' (first | exact True.intro | rfl | assumption | exact ent_keep _ _ | (refine And.intro ?_ ?_) | (intro _ _; rfl) | ((conv => whnf); (first | exact True.intro | (refine And.intro ?_ ?_)))))

theorem con5 : ConOk Try.prog (conOf [(27, inl Try.prog (conOf []) Try.f27), (14, SHas.T), (26, SJoin.T), (25, SCheck.T)]) :=
  conOf_cons (inl_ok noGo mixed conOf_nil Try.func27 (by kernel_rfl)) (conOf_cons (LSpec.call SHas_nt SHas_ok) (conOf_cons (LSpec.call SJoin_nt SJoin_ok) (conOf_cons (LSpec.call SCheck_nt SCheck_ok) conOf_nil)))

/-- The error e: where it is none, whatever ring it is now. -/
def outE (θ : Nat → Nat) (L : Ent) (e : Int) (l' : List Int) (R : V → List (Option SObj) → Prop) : Prop := (e = 0 → ∀ L', Ring L' l' → R (i64 0) [some (rcC (θ 1)), some (rcM L')]) ∧ (e ≠ 0 → R (i64 e) [some (rcC (θ 1)), some (rcM L)])
def SRAdd : LSpec where
  X := Ent × List Int × Int
  k := 2
  pre x := Ring x.1 x.2.1
  args x θ := [.ptr (θ 0) 0, i64 x.2.2]
  objs x θ := [rcC (θ 1), rcM x.1]
  out x θ R := outE θ x.1 (addE x.2.1 x.2.2) (x.2.1 ++ [x.2.2]) R
theorem SRAdd_nt : SRAdd.Nt := ⟨fun _ _ => rfl, by unfold SRAdd; (intros; simp only [ren_all] at *; try assumption), by unfold SRAdd outE; (intros; simp only [ren_all] at *; try assumption)⟩
theorem SRAdd_ok : SRAdd.Ok Try.prog 10 := by
  refine LSpec.of_body noGo mixed con5 Try.func10 rfl (by kernel_rfl) fun ⟨L, l, n⟩ R hp ⟨hR0, hR1⟩ => ?_
  have hp : Ring L l := hp
  (conv => whnf)
  refine ⟨(L, l, n, false), [0, 1], hp, rfl, by (repeat' (first | exact True.intro | rfl | assumption | exact ent_keep _ _ | (refine And.intro ?_ ?_) | (intro _ _; rfl) | ((conv => whnf); (first | exact True.intro | (refine And.intro ?_ ?_))))), by (repeat' (first | exact True.intro | rfl | assumption | exact ent_keep _ _ | (refine And.intro ?_ ?_) | (intro _ _; rfl) | ((conv => whnf); (first | exact True.intro | (refine And.intro ?_ ?_))))), ?_⟩
  (conv => whnf)
  constructor
  · intro h
    have h : addE l n = 0 := by simpa [chkE] using h
    have hs : slot n := Decidable.byContradiction fun g => by rw [addE, if_pos g] at h; omega
    have hl : n ∉ l := fun g => by rw [addE, if_neg (by simpa using hs), if_pos g] at h; omega
    have hr := hp.add hs hl
    (conv => whnf)
    constructor
    · intro v hv
      obtain ⟨p, hq, rfl⟩ := getE_some (L := L) (n := -1) hv
      have hr2 : addL L n = join (join (st n (0, 0) L) p.1 n) n (-1) := by unfold addL; rw [hq]; rfl
      (conv => whnf)
      refine ⟨entE (st n (0, 0) L), (setE_ent n (0, 0) L).symm, ?_⟩
      (conv => whnf)
      refine ⟨(st n (0, 0) L, p.1, n), [0, 1], trivial, rfl, by (repeat' (first | exact True.intro | rfl | assumption | exact ent_keep _ _ | (refine And.intro ?_ ?_) | (intro _ _; rfl) | ((conv => whnf); (first | exact True.intro | (refine And.intro ?_ ?_))))), by (repeat' (first | exact True.intro | rfl | assumption | exact ent_keep _ _ | (refine And.intro ?_ ?_) | (intro _ _; rfl) | ((conv => whnf); (first | exact True.intro | (refine And.intro ?_ ?_))))), ?_⟩
      (conv => whnf)
      refine ⟨(join (st n (0, 0) L) p.1 n, n, -1), [0, 1], trivial, rfl, by (repeat' (first | exact True.intro | rfl | assumption | exact ent_keep _ _ | (refine And.intro ?_ ?_) | (intro _ _; rfl) | ((conv => whnf); (first | exact True.intro | (refine And.intro ?_ ?_))))), by (repeat' (first | exact True.intro | rfl | assumption | exact ent_keep _ _ | (refine And.intro ?_ ?_) | (intro _ _; rfl) | ((conv => whnf); (first | exact True.intro | (refine And.intro ?_ ?_))))), ?_⟩
      rw [hr2] at hr
      (conv => whnf)
      refine ⟨[], _, _, hR0 h _ hr, ?_⟩
      (repeat' (first | exact True.intro | rfl | assumption | exact ent_keep _ _ | (refine And.intro ?_ ?_) | (intro _ _; rfl) | ((conv => whnf); (first | exact True.intro | (refine And.intro ?_ ?_)))))
      exact h.symm
    · intro hv
      have hq := getE_none (L := L) (n := -1) hv
      rw [hp.last] at hq
      cases hq
  · intro h
    have h : ¬ addE l n = 0 := by simpa [chkE] using h
    (conv => whnf)
    refine ⟨[], _, _, hR1 h, ?_⟩
    (repeat' (first | exact True.intro | rfl | assumption | exact ent_keep _ _ | (refine And.intro ?_ ?_) | (intro _ _; rfl) | ((conv => whnf); (first | exact True.intro | (refine And.intro ?_ ?_)))))

def SRRem : LSpec where
  X := Ent × List Int × Int
  k := 2
  pre x := Ring x.1 x.2.1
  args x θ := [.ptr (θ 0) 0, i64 x.2.2]
  objs x θ := [rcC (θ 1), rcM x.1]
  out x θ R := outE θ x.1 (remE x.2.1 x.2.2) (wo x.2.1 x.2.2) R
theorem SRRem_nt : SRRem.Nt := ⟨fun _ _ => rfl, by unfold SRRem; (intros; simp only [ren_all] at *; try assumption), by unfold SRRem outE; (intros; simp only [ren_all] at *; try assumption)⟩
theorem SRRem_ok : SRRem.Ok Try.prog 12 := by
  refine LSpec.of_body noGo mixed con5 Try.func12 rfl (by kernel_rfl) fun ⟨L, l, n⟩ R hp ⟨hR0, hR1⟩ => ?_
  have hp : Ring L l := hp
  (conv => whnf)
  refine ⟨(L, l, n, true), [0, 1], hp, rfl, by (repeat' (first | exact True.intro | rfl | assumption | exact ent_keep _ _ | (refine And.intro ?_ ?_) | (intro _ _; rfl) | ((conv => whnf); (first | exact True.intro | (refine And.intro ?_ ?_))))), by (repeat' (first | exact True.intro | rfl | assumption | exact ent_keep _ _ | (refine And.intro ?_ ?_) | (intro _ _; rfl) | ((conv => whnf); (first | exact True.intro | (refine And.intro ?_ ?_))))), ?_⟩
  (conv => whnf)
  constructor
  · intro h
    have h : remE l n = 0 := by simpa [chkE] using h
    have hs : slot n := Decidable.byContradiction fun g => by rw [remE, if_pos g] at h; omega
    have hl : n ∈ l := Decidable.byContradiction fun g => by rw [remE, if_neg (by simpa using hs), if_pos g] at h; omega
    have hr := hp.rm hl
    (conv => whnf)
    constructor
    · intro v hv
      obtain ⟨p, hq, rfl⟩ := getE_some (L := L) (n := n) hv
      have hr2 : rmL L n = join (dl n L) p.1 p.2 := by unfold rmL; rw [hq]; rfl
      (conv => whnf)
      refine ⟨entE (dl n L), (delE_ent n L).symm, ?_⟩
      (conv => whnf)
      refine ⟨(dl n L, p.1, p.2), [0, 1], trivial, rfl, by (repeat' (first | exact True.intro | rfl | assumption | exact ent_keep _ _ | (refine And.intro ?_ ?_) | (intro _ _; rfl) | ((conv => whnf); (first | exact True.intro | (refine And.intro ?_ ?_))))), by (repeat' (first | exact True.intro | rfl | assumption | exact ent_keep _ _ | (refine And.intro ?_ ?_) | (intro _ _; rfl) | ((conv => whnf); (first | exact True.intro | (refine And.intro ?_ ?_))))), ?_⟩
      rw [hr2] at hr
      (conv => whnf)
      refine ⟨[], _, _, hR0 h _ hr, ?_⟩
      (repeat' (first | exact True.intro | rfl | assumption | exact ent_keep _ _ | (refine And.intro ?_ ?_) | (intro _ _; rfl) | ((conv => whnf); (first | exact True.intro | (refine And.intro ?_ ?_)))))
      exact h.symm
    · intro hv
      have hq := getE_none (L := L) (n := n) hv
      exact absurd hq ((hp.has n).2 (.inr hl))
  · intro h
    have h : ¬ remE l n = 0 := by simpa [chkE] using h
    (conv => whnf)
    refine ⟨[], _, _, hR1 h, ?_⟩
    (repeat' (first | exact True.intro | rfl | assumption | exact ent_keep _ _ | (refine And.intro ?_ ?_) | (intro _ _; rfl) | ((conv => whnf); (first | exact True.intro | (refine And.intro ?_ ?_)))))
theorem con6 : ConOk Try.prog (conOf [(10, SRAdd.T), (12, SRRem.T)]) :=
  conOf_cons (LSpec.call SRAdd_nt SRAdd_ok) (conOf_cons (LSpec.call SRRem_nt SRRem_ok) conOf_nil)
def SRUse : LSpec where
  X := Ent × List Int × Int
  k := 2
  pre x := Ring x.1 x.2.1
  args x θ := [.ptr (θ 0) 0, i64 x.2.2]
  objs x θ := [rcC (θ 1), rcM x.1]
  out x θ R := outE θ x.1 (remE x.2.1 x.2.2) (wo x.2.1 x.2.2 ++ [x.2.2]) R
theorem SRUse_nt : SRUse.Nt := ⟨fun _ _ => rfl, by unfold SRUse; (intros; simp only [ren_all] at *; try assumption), by unfold SRUse outE; (intros; simp only [ren_all] at *; try assumption)⟩
theorem SRUse_ok : SRUse.Ok Try.prog 11 := by
  refine LSpec.of_body noGo mixed con6 Try.func11 rfl (by kernel_rfl) fun ⟨L, l, n⟩ R hp ⟨hR0, hR1⟩ => ?_
  have hp : Ring L l := hp
  (conv => whnf)
  refine ⟨(L, l, n), [0, 1], hp, rfl, by (repeat' (first | exact True.intro | rfl | assumption | exact ent_keep _ _ | (refine And.intro ?_ ?_) | (intro _ _; rfl) | ((conv => whnf); (first | exact True.intro | (refine And.intro ?_ ?_))))), by (repeat' (first | exact True.intro | rfl | assumption | exact ent_keep _ _ | (refine And.intro ?_ ?_) | (intro _ _; rfl) | ((conv => whnf); (first | exact True.intro | (refine And.intro ?_ ?_))))), ?_⟩
  (conv => whnf)
  constructor
  · intro h L' hL'
    have h : remE l n = 0 := h
    have hs : slot n := Decidable.byContradiction fun g => by rw [remE, if_pos g] at h; omega
    have h2 : addE (wo l n) n = 0 := by
      rw [addE, if_neg (by simpa using hs), if_neg (by simp [wo])]
    have hL' : Ring L' (wo l n) := hL'
    (conv => whnf)
    refine ⟨fun _ => ?_, fun h => absurd h (by decide)⟩
    (conv => whnf)
    refine ⟨(L', wo l n, n), [0, 1], hL', rfl, by (repeat' (first | exact True.intro | rfl | assumption | exact ent_keep _ _ | (refine And.intro ?_ ?_) | (intro _ _; rfl) | ((conv => whnf); (first | exact True.intro | (refine And.intro ?_ ?_))))), by (repeat' (first | exact True.intro | rfl | assumption | exact ent_keep _ _ | (refine And.intro ?_ ?_) | (intro _ _; rfl) | ((conv => whnf); (first | exact True.intro | (refine And.intro ?_ ?_))))), ?_⟩
    (conv => whnf)
    refine ⟨fun _ L'' hL'' => ?_, fun h => absurd h2 h⟩
    (conv => whnf)
    refine ⟨[], _, _, hR0 h _ hL'', ?_⟩
    (repeat' (first | exact True.intro | rfl | assumption | exact ent_keep _ _ | (refine And.intro ?_ ?_) | (intro _ _; rfl) | ((conv => whnf); (first | exact True.intro | (refine And.intro ?_ ?_)))))
  · intro h
    have h : ¬ remE l n = 0 := h
    (conv => whnf)
    constructor
    · intro g
      exact absurd (by simpa using g) h
    · intro g
      (conv => whnf)
      refine ⟨[], _, _, hR1 h, ?_⟩
      (repeat' (first | exact True.intro | rfl | assumption | exact ent_keep _ _ | (refine And.intro ?_ ?_) | (intro _ _; rfl) | ((conv => whnf); (first | exact True.intro | (refine And.intro ?_ ?_)))))
end Go.Proofs.Ytollflfkgcgdkaa
