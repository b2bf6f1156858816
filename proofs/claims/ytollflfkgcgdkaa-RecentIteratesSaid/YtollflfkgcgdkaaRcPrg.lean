/- What the functions of package recent compute. -/
import Derived.Test.YtollflfkgcgdkaaRcRef2
namespace Go.Proofs.Ytollflfkgcgdkaa
open Go Sy
set_option maxRecDepth 100000

def rcC (m : Nat) : SObj := .cells [.mp m] 51
def rcM (L : Ent) : SObj := .map (.i .i64) (entE L)
theorem getE_some {L : Ent} {n : Int} {v : V} (h : getE (.i n) (entE L) = some v) : ∃ p, lk L n = some p ∧ v = linkV p := by
  rw [getE_ent] at h
  cases e : lk L n with
  | none => rw [e] at h; cases h
  | some p => rw [e] at h; simp only [Option.map_some, Option.some.injEq] at h; exact ⟨p, rfl, h.symm⟩
theorem getE_none {L : Ent} {n : Int} (h : getE (.i n) (entE L) = none) : lk L n = none := by
  rw [getE_ent] at h
  cases e : lk L n with
  | none => rfl
  | some p => rw [e] at h; cases h

theorem rcC_ren (θ : Nat → Nat) (m : Nat) : (rcC m).ren θ = rcC (θ m) := rfl
theorem rcM_ren (θ : Nat → Nat) (L : Ent) : (rcM L).ren θ = rcM L := by
  simp only [rcM, SObj.ren, entE, List.map_map]
  rfl
theorem rowO_ren (θ : Nat → Nat) (l : List Int) : (rowO l).ren θ = rowO l := rfl
theorem i64_ren (θ : Nat → Nat) (n : Int) : (i64 n).ren θ = i64 n := rfl
theorem slI_ren (θ : Nat → Nat) (i : Nat) (l : List Int) (f : Bool) : (slI i l f).ren θ = slI (θ i) l f := rfl
theorem ren_all : type_of% (And.intro @map_all (And.intro @ptr_ren (And.intro @sb_ren (And.intro @int_ren (And.intro @tup_ren (And.intro @con_ren (And.intro @nil_ren (And.intro @rcC_ren (And.intro @rcM_ren (And.intro @rowO_ren (And.intro @i64_ren (@slI_ren)))))))))))) := And.intro @map_all (And.intro @ptr_ren (And.intro @sb_ren (And.intro @int_ren (And.intro @tup_ren (And.intro @con_ren (And.intro @nil_ren (And.intro @rcC_ren (And.intro @rcM_ren (And.intro @rowO_ren (And.intro @i64_ren (@slI_ren)))))))))))

theorem ent_keep (φ : Nat → Option Nat) (L : Ent) : ∀ p ∈ entE L, V.mapN φ p.2 = p.2 := fun p hp => by
  unfold entE at hp
  obtain ⟨q, _, rfl⟩ := List.mem_map.1 hp
  rfl

def SNew : LSpec where
  X := Unit
  k := 0
  pre _ := True
  args _ _ := []
  objs _ _ := []
  out _ θ R := ∀ L, Ring L [] → R (.ptr (θ 0) 0) [some (rcC (θ 1)), some (rcM L)]
theorem SNew_nt : SNew.Nt := ⟨fun _ _ => rfl, by unfold SNew; (intros; simp only [ren_all] at *; try assumption), by unfold SNew; (intros; simp only [ren_all] at *; try assumption)⟩
theorem ring_new : Ring [(-1, -1, -1)] [] := ⟨by simp, by simp, by simp, rfl, trivial, rfl, fun n h _ => by simp [lk, Ne.symm h]⟩
theorem SNew_ok : SNew.Ok Try.prog 8 := by
  refine LSpec.of_body noGo mixed conOf_nil Try.func8 rfl (by kernel_rfl) fun _ R hp hR => ?_
  (conv => whnf)
  refine ⟨entE [(-1, -1, -1)], rfl, ?_⟩
  (conv => whnf)
  refine ⟨[some 1, some 0], _, _, hR _ ring_new, ?_⟩
  (repeat' (first | exact True.intro | rfl | assumption | exact ent_keep _ _ | (refine And.intro ?_ ?_) | (intro _ _; rfl) | ((conv => whnf); (first | exact True.intro | (refine And.intro ?_ ?_)))))

def SHas : LSpec where
  X := Ent × List Int × Int
  k := 2
  pre x := Ring x.1 x.2.1
  args x θ := [.ptr (θ 0) 0, i64 x.2.2]
  objs x θ := [rcC (θ 1), rcM x.1]
  out x θ R := R (.sb (decide (x.2.2 ∈ x.2.1))) [some (rcC (θ 1)), some (rcM x.1)]
theorem SHas_nt : SHas.Nt := ⟨fun _ _ => rfl, by unfold SHas; (intros; simp only [ren_all] at *; try assumption), by unfold SHas; (intros; simp only [ren_all] at *; try assumption)⟩
theorem con3 : ConOk Try.prog (conOf [(27, inl Try.prog (conOf []) Try.f27)]) :=
  conOf_cons (inl_ok noGo mixed conOf_nil Try.func27 (by kernel_rfl)) conOf_nil
theorem SHas_ok : SHas.Ok Try.prog 14 := by
  refine LSpec.of_body noGo mixed con3 Try.func14 rfl (by kernel_rfl) fun ⟨L, l, n⟩ R hp hR => ?_
  have hp : Ring L l := hp
  (conv => whnf)
  constructor
  · intro h
    have h : n = -1 := by simpa using h
    have e : decide (n ∈ l) = false := decide_eq_false (h ▸ hp.end)
    (conv => whnf)
    refine ⟨[], _, _, hR, ?_⟩
    (repeat' (first | exact True.intro | rfl | assumption | exact ent_keep _ _ | (refine And.intro ?_ ?_) | (intro _ _; rfl) | ((conv => whnf); (first | exact True.intro | (refine And.intro ?_ ?_)))))
  · intro h
    have h : n ≠ -1 := by simpa using h
    (conv => whnf)
    constructor
    · intro v hv
      obtain ⟨p, hq, rfl⟩ := getE_some (L := L) (n := n) hv
      have e : decide (n ∈ l) = true := decide_eq_true (((hp.has n).1 (by rw [hq]; simp)).resolve_left h)
      (conv => whnf)
      refine ⟨[], _, _, hR, ?_⟩
      (repeat' (first | exact True.intro | rfl | assumption | exact ent_keep _ _ | (refine And.intro ?_ ?_) | (intro _ _; rfl) | ((conv => whnf); (first | exact True.intro | (refine And.intro ?_ ?_)))))
    · intro hv
      have hv := getE_none hv
      have e : decide (n ∈ l) = false := decide_eq_false fun g => (hp.has n).2 (.inr g) hv
      (conv => whnf)
      refine ⟨[], _, _, hR, ?_⟩
      (repeat' (first | exact True.intro | rfl | assumption | exact ent_keep _ _ | (refine And.intro ?_ ?_) | (intro _ _; rfl) | ((conv => whnf); (first | exact True.intro | (refine And.intro ?_ ?_)))))

def SJoin : LSpec where
  X := Ent × Int × Int
  k := 2
  pre _ := True
  args x θ := [.ptr (θ 0) 0, i64 x.2.1, i64 x.2.2]
  objs x θ := [rcC (θ 1), rcM x.1]
  out x θ R := R (.tup []) [some (rcC (θ 1)), some (rcM (join x.1 x.2.1 x.2.2))]
theorem SJoin_nt : SJoin.Nt := ⟨fun _ _ => rfl, by unfold SJoin; (intros; simp only [ren_all] at *; try assumption), by unfold SJoin; (intros; simp only [ren_all] at *; try assumption)⟩
theorem SJoin_ok : SJoin.Ok Try.prog 26 := by
  refine LSpec.of_body noGo mixed conOf_nil Try.func26 rfl (by kernel_rfl) fun ⟨L, a, b⟩ R hp hR => ?_
  (conv => whnf)
  have key : ∀ L1 : Ent, L1 = st a (((lk L a).getD (0, 0)).1, b) L → ∀ L2, L2 = st b (a, ((lk L1 b).getD (0, 0)).2) L1 → L2 = join L a b := by
    rintro _ rfl _ rfl
    rfl
  constructor
  · intro v hv
    obtain ⟨p, hq, rfl⟩ := getE_some (L := L) (n := a) hv
    (conv => whnf)
    refine ⟨entE (st a (p.1, b) L), (setE_ent a (p.1, b) L).symm, ?_⟩
    (conv => whnf)
    have h1 : st a (p.1, b) L = st a (((lk L a).getD (0, 0)).1, b) L := by rw [hq]; rfl
    generalize st a (p.1, b) L = L1 at *
    constructor
    · intro v hv2
      obtain ⟨q, hq2, rfl⟩ := getE_some (L := L1) (n := b) hv2
      (conv => whnf)
      refine ⟨entE (st b (a, q.2) L1), (setE_ent b (a, q.2) L1).symm, ?_⟩
      have e := key _ h1 (st b (a, q.2) L1) (by rw [hq2]; rfl)
      generalize st b (a, q.2) L1 = L2 at *
      subst e
      (conv => whnf)
      refine ⟨[], _, _, hR, ?_⟩
      (repeat' (first | exact True.intro | rfl | assumption | exact ent_keep _ _ | (refine And.intro ?_ ?_) | (intro _ _; rfl) | ((conv => whnf); (first | exact True.intro | (refine And.intro ?_ ?_)))))
    · intro hv2
      have hq2 := getE_none (L := L1) (n := b) hv2
      (conv => whnf)
      refine ⟨entE (st b (a, 0) L1), (setE_ent b (a, 0) L1).symm, ?_⟩
      have e := key _ h1 (st b (a, 0) L1) (by rw [hq2]; rfl)
      generalize st b (a, 0) L1 = L2 at *
      subst e
      (conv => whnf)
      refine ⟨[], _, _, hR, ?_⟩
      (repeat' (first | exact True.intro | rfl | assumption | exact ent_keep _ _ | (refine And.intro ?_ ?_) | (intro _ _; rfl) | ((conv => whnf); (first | exact True.intro | (refine And.intro ?_ ?_)))))
  · intro hv
    have hq := getE_none (L := L) (n := a) hv
    (conv => whnf)
    refine ⟨entE (st a (((0, 0) : Int × Int).1, b) L), (setE_ent a (((0, 0) : Int × Int).1, b) L).symm, ?_⟩
    (conv => whnf)
    have h1 : st a (((0, 0) : Int × Int).1, b) L = st a (((lk L a).getD (0, 0)).1, b) L := by rw [hq]; rfl
    generalize st a (((0, 0) : Int × Int).1, b) L = L1 at *
    constructor
    · intro v hv2
      obtain ⟨q, hq2, rfl⟩ := getE_some (L := L1) (n := b) hv2
      (conv => whnf)
      refine ⟨entE (st b (a, q.2) L1), (setE_ent b (a, q.2) L1).symm, ?_⟩
      have e := key _ h1 (st b (a, q.2) L1) (by rw [hq2]; rfl)
      generalize st b (a, q.2) L1 = L2 at *
      subst e
      (conv => whnf)
      refine ⟨[], _, _, hR, ?_⟩
      (repeat' (first | exact True.intro | rfl | assumption | exact ent_keep _ _ | (refine And.intro ?_ ?_) | (intro _ _; rfl) | ((conv => whnf); (first | exact True.intro | (refine And.intro ?_ ?_)))))
    · intro hv2
      have hq2 := getE_none (L := L1) (n := b) hv2
      (conv => whnf)
      refine ⟨entE (st b (a, 0) L1), (setE_ent b (a, 0) L1).symm, ?_⟩
      have e := key _ h1 (st b (a, 0) L1) (by rw [hq2]; rfl)
      generalize st b (a, 0) L1 = L2 at *
      subst e
      (conv => whnf)
      refine ⟨[], _, _, hR, ?_⟩
      (repeat' (first | exact True.intro | rfl | assumption | exact ent_keep _ _ | (refine And.intro ?_ ?_) | (intro _ _; rfl) | ((conv => whnf); (first | exact True.intro | (refine And.intro ?_ ?_)))))
end Go.Proofs.Ytollflfkgcgdkaa
