/- What the functions of package cascade compute: check, both, Levels, Below, Count, Above. -/
import Derived.Test.YtddionboojdjlaaCaSearchR
import Derived.Test.YtddionboojdjlaaCaCatR
import Derived.Test.YtddionboojdjlaaK8CascadeLong
namespace Go.Proofs.Ytddionboojdjlaa
open Go Go.RowKit Sy Tb Gr
set_option maxRecDepth 100000
set_option maxHeartbeats 4000000

namespace Gr
theorem bfs_le {ch : Bs → List Bs} : ∀ (f : Nat) (met last : List Bs), (bfs ch f met last).length ≤ f
  | 0, _, _ => Nat.le_refl _
  | f + 1, met, last => by
    unfold bfs
    split
    · exact Nat.zero_le _
    · exact Nat.succ_le_succ (bfs_le f _ _)
theorem bfs_len {ch : Bs → List Bs} {a : Bs} {B : List Bs} (hB : ∀ k, ∀ x ∈ ch k, x ∈ B) : ∀ (f : Nat) (met last : List Bs), met.Nodup → (∀ x ∈ met, x = a ∨ x ∈ B) → (bfs ch f met last).flatten.length + met.length ≤ B.length + 1 := by
  have base : ∀ met : List Bs, met.Nodup → (∀ x ∈ met, x = a ∨ x ∈ B) → met.length ≤ B.length + 1 := fun met h hs => by
    have := nodup_sub (M := a :: B) h fun x hx => by
      rcases hs x hx with rfl | q
      · exact List.mem_cons_self ..
      · exact List.mem_cons_of_mem _ q
    rwa [List.length_cons] at this
  intro f
  induction f with
  | zero => intro met last h hs; show 0 + met.length ≤ _; rw [Nat.zero_add]; exact base met h hs
  | succ f ih =>
    intro met last h hs
    unfold bfs
    split
    · show 0 + met.length ≤ _; rw [Nat.zero_add]; exact base met h hs
    · obtain ⟨v1, v2⟩ := lvl_ok (ch := ch) (last := last) h
      have := ih (lvl ch met last).1 (sortK (lvl ch met last).2) v1.nd fun x hx => by
        rw [v1.eq] at hx
        rcases List.mem_append.1 hx with q | q
        · exact hs x q
        · obtain ⟨k, _, hk⟩ := ((v2 x).1 q).2
          exact .inr (hB k x hk)
      rw [List.flatten_cons, List.length_append, sortK_len]
      have hl := congrArg List.length v1.eq
      rw [List.length_append] at hl
      omega
theorem levK_tot {ch : Bs → List Bs} {a : Bs} {B : List Bs} (hB : ∀ k, ∀ x ∈ ch k, x ∈ B) : (levK ch a).flatten.length ≤ B.length := by
  have := bfs_len (a := a) hB lfuel [a] [a] (List.pairwise_singleton ..) fun x hx => .inl (List.mem_singleton.1 hx)
  rw [List.length_singleton] at this
  unfold levK
  omega
end Gr
def eK (k : Bs) : Int := if validK k = true then 0 else 2
theorem rReach_e (E : List Ed) (a b : Bs) (m : Int) : (rReach E a b m).2.2 ≠ 1 := by
  unfold rReach
  split
  · split
    · show (2 : Int) ≠ 1; decide
    · split
      · show (7 : Int) ≠ 1; decide
      · show (0 : Int) ≠ 1; decide
  · show (2 : Int) ≠ 1; decide
/-- What is asked of a graph: the edges that it has. -/
abbrev GX := GG × List Ed × Int
def GXok (x : GX) : Prop := MG 1000 1000 x.2.1 x.2.2 x.1 ∧ x.2.1.length ≤ 300 ∧ x.2.2 < 100000000
theorem chI_of {g : GG} {E : List Ed} {s : Int} (hG : MG 1000 1000 E s g) (hl : E.length ≤ 300) : ChI false g (chE E) (E.map (·.2)) := by
  refine ⟨hG.gu.gt, hG.gu.n1, hG.gu.ei, fun k => hG.rel.ch hG.pu k, fun k y hy => ⟨List.mem_map.2 ⟨_, mem_chE.1 hy, rfl⟩, ?_⟩, fun k => by have := chE_len E k; omega, by rw [List.length_map]; omega⟩
  have := (validK_iff.1 (hG.valid _ (mem_chE.1 hy)).2).2
  show y.size ≤ 1000000
  have : y.size ≤ 250 := this
  omega
theorem prI_of {g : GG} {E : List Ed} {s : Int} (hG : MG 1000 1000 E s g) (hl : E.length ≤ 300) : ChI true g (prE E) (E.map (·.1)) := by
  refine ⟨hG.gu.gt, hG.gu.n1, hG.gu.ei, fun k => hG.rel.pa hG.pu k, fun k y hy => ⟨List.mem_map.2 ⟨_, mem_prE.1 hy, rfl⟩, ?_⟩, fun k => by have := prE_len E k; omega, by rw [List.length_map]; omega⟩
  have := (validK_iff.1 (hG.valid _ (mem_prE.1 hy)).1).2
  have : y.size ≤ 250 := this
  omega
theorem conCc : ConOk Try.prog (conOf [(29, SReachL.T)]) := conOf_cons (LSpec.call SReachL_nt SReachL_ok) conOf_nil
def SCheckC : LSpec where
  X := GX
  k := 5
  pre x := GXok x
  args _ θ := [.ptr (θ 0) 0]
  objs x θ := x.1.objs θ
  out x θ R := ∀ g : GG, MG 1000 1000 x.2.1 (x.2.2 + 1) g → R (i64 0) (g.all θ)
theorem SCheckC_nt : SCheckC.Nt := ⟨fun _ _ => rfl, by unfold SCheckC GG.objs; (intros; simp only [ren_all] at *; try assumption), by unfold SCheckC GG.all; (intros; simp only [ren_all] at *; try assumption)⟩
theorem SCheckC_ok : SCheckC.Ok Try.prog 44 := by
  refine LSpec.of_body noGo mixed conCc Try.func44 rfl (by kernel_rfl) fun ⟨g, E, s⟩ R ⟨hG, hl, hs⟩ hR => ?_
  have hG : MG 1000 1000 E s g := hG
  have hs : s < 100000000 := hs
  have hQ : ∀ g' : GG, MG 1000 1000 E (s + 1) g' → R (i64 0) (g'.all _root_.id) := hR
  (conv => whnf)
  refine ⟨(g, ⟨#[97]⟩, ⟨#[97]⟩, 0, rReach E ⟨#[97]⟩ ⟨#[97]⟩ 0), [0, 1, 2, 3, 4], ⟨⟨hG.gu, hG.sb (by omega)⟩, ⟨show ByteArray.size ⟨#[97]⟩ ≤ 1000000 by decide, show ByteArray.size ⟨#[97]⟩ ≤ 1000000 by decide⟩, hG.reach _ _ _⟩, rfl, by (repeat' (first | exact True.intro | rfl | assumption | exact mc_ok rfl | exact mr_ok | exact fun _ => rfl | exact mt_keep _ _ | exact ms_ok | (refine And.intro ?_ ?_) | (intro _ _; rfl) | ((conv => whnf); (first | exact True.intro | (refine And.intro ?_ ?_))))), by (repeat' (first | exact True.intro | rfl | assumption | exact mc_ok rfl | exact mr_ok | exact fun _ => rfl | exact mt_keep _ _ | exact ms_ok | (refine And.intro ?_ ?_) | (intro _ _; rfl) | ((conv => whnf); (first | exact True.intro | (refine And.intro ?_ ?_))))), fun M1 ns sr k1 k2 k3 => ?_⟩
  have hF := hQ _ (hG.mark k1 k2 k3)
  have he := rReach_e E ⟨#[97]⟩ ⟨#[97]⟩ 0
  (conv => whnf)
  refine ⟨fun hh => absurd (of_decide_eq_true hh : (rReach E ⟨#[97]⟩ ⟨#[97]⟩ 0).2.2 = 1) he, fun _ => ?_⟩
  (conv => whnf)
  refine ⟨[], _, _, hF, ?_⟩
  (repeat' (first | exact True.intro | rfl | assumption | exact mc_ok rfl | exact mr_ok | exact fun _ => rfl | exact mt_keep _ _ | exact ms_ok | (refine And.intro ?_ ?_) | (intro _ _; rfl) | ((conv => whnf); (first | exact True.intro | (refine And.intro ?_ ?_)))))
theorem conBo : ConOk Try.prog (conOf [(44, SCheckC.T), (72, SValid.T)]) := conOf_cons (LSpec.call SCheckC_nt SCheckC_ok) (conOf_cons (LSpec.call SValid_nt SValid_ok) conOf_nil)
def SBoth : LSpec where
  X := GX × Bs
  k := 5
  pre x := GXok x.1
  args x θ := [.ptr (θ 0) 0, .str x.2]
  objs x θ := x.1.1.objs θ
  out x θ R := ∀ g : GG, MG 1000 1000 x.1.2.1 (x.1.2.2 + 1) g → R (i64 (eK x.2)) (g.all θ)
theorem SBoth_nt : SBoth.Nt := ⟨fun _ _ => rfl, by unfold SBoth GG.objs; (intros; simp only [ren_all] at *; try assumption), by unfold SBoth GG.all; (intros; simp only [ren_all] at *; try assumption)⟩
theorem SBoth_ok : SBoth.Ok Try.prog 51 := by
  refine LSpec.of_body noGo mixed conBo Try.func51 rfl (by kernel_rfl) fun ⟨⟨g, E, s⟩, k⟩ R hX hR => ?_
  have hX : GXok (g, E, s) := hX
  have hQ : ∀ g' : GG, MG 1000 1000 E (s + 1) g' → R (i64 (eK k)) (g'.all _root_.id) := hR
  (conv => whnf)
  refine ⟨(g, E, s), [0, 1, 2, 3, 4], hX, rfl, by (repeat' (first | exact True.intro | rfl | assumption | exact mc_ok rfl | exact mr_ok | exact fun _ => rfl | exact mt_keep _ _ | exact ms_ok | (refine And.intro ?_ ?_) | (intro _ _; rfl) | ((conv => whnf); (first | exact True.intro | (refine And.intro ?_ ?_))))), by (repeat' (first | exact True.intro | rfl | assumption | exact mc_ok rfl | exact mr_ok | exact fun _ => rfl | exact mt_keep _ _ | exact ms_ok | (refine And.intro ?_ ?_) | (intro _ _; rfl) | ((conv => whnf); (first | exact True.intro | (refine And.intro ?_ ?_))))), fun g' hG' => ?_⟩
  have hF := hQ g' hG'
  (conv => whnf)
  refine ⟨fun hh => Bool.noConfusion (show (!decide ((0 : Int) = 0)) = true from hh), fun _ => ?_⟩
  (conv => whnf)
  refine ⟨k, [], trivial, rfl, by (repeat' (first | exact True.intro | rfl | assumption | exact mc_ok rfl | exact mr_ok | exact fun _ => rfl | exact mt_keep _ _ | exact ms_ok | (refine And.intro ?_ ?_) | (intro _ _; rfl) | ((conv => whnf); (first | exact True.intro | (refine And.intro ?_ ?_))))), by (repeat' (first | exact True.intro | rfl | assumption | exact mc_ok rfl | exact mr_ok | exact fun _ => rfl | exact mt_keep _ _ | exact ms_ok | (refine And.intro ?_ ?_) | (intro _ _; rfl) | ((conv => whnf); (first | exact True.intro | (refine And.intro ?_ ?_))))), ?_⟩
  (conv => whnf)
  constructor
  · intro h
    have h : validK k = false := not_t h
    have e : eK k = 2 := if_neg (by rw [h]; exact Bool.false_ne_true)
    rw [e] at hF
    (conv => whnf)
    refine ⟨[], _, _, hF, ?_⟩
    (repeat' (first | exact True.intro | rfl | assumption | exact mc_ok rfl | exact mr_ok | exact fun _ => rfl | exact mt_keep _ _ | exact ms_ok | (refine And.intro ?_ ?_) | (intro _ _; rfl) | ((conv => whnf); (first | exact True.intro | (refine And.intro ?_ ?_)))))
  · intro h
    have h : validK k = true := not_f h
    have e : eK k = 0 := if_pos h
    rw [e] at hF
    (conv => whnf)
    refine ⟨[], _, _, hF, ?_⟩
    (repeat' (first | exact True.intro | rfl | assumption | exact mc_ok rfl | exact mr_ok | exact fun _ => rfl | exact mt_keep _ _ | exact ms_ok | (refine And.intro ?_ ?_) | (intro _ _; rfl) | ((conv => whnf); (first | exact True.intro | (refine And.intro ?_ ?_)))))
theorem conLe : ConOk Try.prog (conOf [(51, SBoth.T), (52, (SSearch false).T)]) := conOf_cons (LSpec.call SBoth_nt SBoth_ok) (conOf_cons (LSpec.call (SSearch_nt false) SSearchF_ok (fun _ => rfl) (show 5 ≤ 60 by decide)) conOf_nil)
def levE (E : List Ed) (k : Bs) : List (List Bs) := if validK k = true then levK (chE E) k else []
def SLevels : LSpec where
  X := GX × Bs
  k := 5
  pre x := GXok x.1 ∧ x.2.size ≤ 1000000
  args x θ := [.ptr (θ 0) 0, .str x.2]
  objs x θ := x.1.1.objs θ
  out x θ R := ∀ (g : GG) M O, MG 1000 1000 x.1.2.1 (x.1.2.2 + 1) g → levs O = levE x.1.2.1 x.2 → OI M O → R (.tup [.sl (θ 5) 0 1 O.length false, i64 (eK x.2)]) (g.all θ ++ [some (loR (θ 6) O), some (msO M)])
theorem SLevels_nt : SLevels.Nt := ⟨fun _ _ => rfl, by unfold SLevels GG.objs; (intros; simp only [ren_all] at *; try assumption), by unfold SLevels GG.all; intros; simp only [ren_all, loR_ren, msO_ren] at *; try assumption⟩
theorem OI.nil : OI (fun _ => none) [] := ⟨fun _ hx => absurd hx List.not_mem_nil, List.nodup_nil⟩
theorem SLevels_ok : SLevels.Ok Try.prog 27 := by
  refine LSpec.of_body noGo mixed conLe Try.func27 rfl (by kernel_rfl) fun ⟨⟨g, E, s⟩, k⟩ R ⟨hX, hk⟩ hR => ?_
  have hX : GXok (g, E, s) := hX
  have hk : k.size ≤ 1000000 := hk
  have hQ : ∀ (g' : GG) M O, MG 1000 1000 E (s + 1) g' → levs O = levE E k → OI M O → R (.tup [.sl 5 0 1 O.length false, i64 (eK k)]) (g'.all _root_.id ++ [some (loR 6 O), some (msO M)]) := hR
  (conv => whnf)
  refine ⟨((g, E, s), k), [0, 1, 2, 3, 4], hX, rfl, by (repeat' (first | exact True.intro | rfl | assumption | exact mc_ok rfl | exact mr_ok | exact fun _ => rfl | exact mt_keep _ _ | exact ms_ok | (refine And.intro ?_ ?_) | (intro _ _; rfl) | ((conv => whnf); (first | exact True.intro | (refine And.intro ?_ ?_))))), by (repeat' (first | exact True.intro | rfl | assumption | exact mc_ok rfl | exact mr_ok | exact fun _ => rfl | exact mt_keep _ _ | exact ms_ok | (refine And.intro ?_ ?_) | (intro _ _; rfl) | ((conv => whnf); (first | exact True.intro | (refine And.intro ?_ ?_))))), fun g' hG' => ?_⟩
  have hG' : MG 1000 1000 E (s + 1) g' := hG'
  (conv => whnf)
  constructor
  · intro h
    have h : ¬ validK k = true := fun q => by
      have h : (!decide (eK k = 0)) = true := h
      rw [show eK k = 0 from if_pos q] at h
      exact absurd h (by decide)
    have hF := hQ g' (fun _ => none) [] hG' (by unfold levE; rw [if_neg h]; rfl) OI.nil
    (conv => whnf)
    refine ⟨[none, none], _, _, hF, ?_⟩
    (repeat' (first | exact True.intro | rfl | assumption | exact mc_ok rfl | exact mr_ok | exact fun _ => rfl | exact mt_keep _ _ | exact ms_ok | (refine And.intro ?_ ?_) | (intro _ _; rfl) | ((conv => whnf); (first | exact True.intro | (refine And.intro ?_ ?_)))))
  · intro h
    have hv : validK k = true := Decidable.byContradiction fun q => by
      have h : (!decide (eK k = 0)) = false := h
      rw [show eK k = 2 from if_neg q] at h
      exact absurd h (by decide)
    have e : eK k = 0 := if_pos hv
    rw [e] at hQ
    have hC : ChI false g' (chE E) (E.map (·.2)) := chI_of hG' hX.2.1
    (conv => whnf)
    refine ⟨((g', k), chE E, E.map (·.2)), [0, 1, 2, 3, 4], ⟨hC, hk⟩, rfl, by (repeat' (first | exact True.intro | rfl | assumption | exact mc_ok rfl | exact mr_ok | exact fun _ => rfl | exact mt_keep _ _ | exact ms_ok | (refine And.intro ?_ ?_) | (intro _ _; rfl) | ((conv => whnf); (first | exact True.intro | (refine And.intro ?_ ?_))))), by (repeat' (first | exact True.intro | rfl | assumption | exact mc_ok rfl | exact mr_ok | exact fun _ => rfl | exact mt_keep _ _ | exact ms_ok | (refine And.intro ?_ ?_) | (intro _ _; rfl) | ((conv => whnf); (first | exact True.intro | (refine And.intro ?_ ?_))))), fun M O h1 h2 => ?_⟩
    have hF := hQ g' M O hG' (h1.trans (by unfold levE; rw [if_pos hv])) h2
    (conv => whnf)
    refine ⟨[some 5, some 6], _, _, hF, ?_⟩
    (repeat' (first | exact True.intro | rfl | assumption | exact mc_ok rfl | exact mr_ok | exact fun _ => rfl | exact mt_keep _ _ | exact ms_ok | (refine And.intro ?_ ?_) | (intro _ _; rfl) | ((conv => whnf); (first | exact True.intro | (refine And.intro ?_ ?_)))))
end Go.Proofs.Ytddionboojdjlaa
