/- One text out of 2. -/
import Derived.Test.YtddionboojdjlaaCaFnsR
section
namespace Go.Proofs.Ytddionboojdjlaa
open Go Go.RowKit Sy Tb Gr
set_option maxRecDepth 100000
set_option maxHeartbeats 4000000

def belE (E : List Ed) (k : Bs) : List Bs := (levE E k).flatten
theorem belE_len (E : List Ed) (k : Bs) : (belE E k).length ≤ E.length := by
  unfold belE levE
  split
  · have := levK_tot (ch := chE E) (a := k) (B := E.map (·.2)) fun k y hy => List.mem_map.2 ⟨_, mem_chE.1 hy, rfl⟩
    rwa [List.length_map] at this
  · exact Nat.zero_le _
theorem levE_len (E : List Ed) (k : Bs) : (levE E k).length ≤ lfuel := by
  unfold levE
  split
  · exact bfs_le _ _ _
  · exact Nat.zero_le _
theorem conBe : ConOk Try.prog (conOf [(27, SLevels.T), (50, SConcat.T)]) := conOf_cons (LSpec.call SLevels_nt SLevels_ok) (conOf_cons (LSpec.call SConcat_nt SConcat_ok) conOf_nil)
def SBelow : LSpec where
  X := GX × Bs
  k := 5
  pre x := GXok x.1 ∧ x.2.size ≤ 1000000
  args x θ := [.ptr (θ 0) 0, .str x.2]
  objs x θ := x.1.1.objs θ
  out x θ R := ∀ g : GG, MG 1000 1000 x.1.2.1 (x.1.2.2 + 1) g → R (.tup [.sl (θ 5) 0 1 (belE x.1.2.1 x.2).length false, i64 (eK x.2)]) (g.all θ ++ [some (stR (belE x.1.2.1 x.2))])
theorem SBelow_nt : SBelow.Nt := ⟨fun _ _ => rfl, by unfold SBelow GG.objs; (intros; simp only [ren_all] at *; try assumption), by unfold SBelow GG.all; intros; simp only [ren_all] at *; try assumption⟩
theorem SBelow_ok : SBelow.Ok Try.prog 26 := by
  refine LSpec.of_body noGo mixed conBe Try.func26 rfl (by kernel_rfl) fun ⟨⟨g, E, s⟩, k⟩ R ⟨hX, hk⟩ hR => ?_
  have hX : GXok (g, E, s) := hX
  have hk : k.size ≤ 1000000 := hk
  have hQ : ∀ g' : GG, MG 1000 1000 E (s + 1) g' → R (.tup [.sl 5 0 1 (belE E k).length false, i64 (eK k)]) (g'.all _root_.id ++ [some (stR (belE E k))]) := hR
  (conv => whnf)
  refine ⟨((g, E, s), k), [0, 1, 2, 3, 4], ⟨hX, hk⟩, rfl, by (repeat' (first | exact True.intro | rfl | assumption | exact mc_ok rfl | exact mr_ok | exact fun _ => rfl | exact mt_keep _ _ | exact ms_ok | (refine And.intro ?_ ?_) | (intro _ _; rfl) | ((conv => whnf); (first | exact True.intro | (refine And.intro ?_ ?_))))), by (repeat' (first | exact True.intro | rfl | assumption | exact mc_ok rfl | exact mr_ok | exact fun _ => rfl | exact mt_keep _ _ | exact ms_ok | (refine And.intro ?_ ?_) | (intro _ _; rfl) | ((conv => whnf); (first | exact True.intro | (refine And.intro ?_ ?_))))), fun g' M O hG' h1 h2 => ?_⟩
  have h1 : levs O = levE E k := h1
  have hF := hQ g' hG'
  have ht : totL O ≤ 1000000 := by
    have := belE_len E k
    have hl : E.length ≤ 300 := hX.2.1
    unfold belE at this
    unfold totL
    rw [h1]
    omega
  have hl : O.length ≤ 100000 := by
    have := levE_len E k
    rw [← h1] at this
    unfold levs at this
    rw [List.length_map] at this
    exact Nat.le_trans this (by decide)
  rw [show belE E k = (levs O).flatten by rw [h1]; rfl] at hF
  (conv => whnf)
  refine ⟨(M, O), [5, 6], ⟨h2, ht, hl⟩, rfl, by (repeat' (first | exact True.intro | rfl | assumption | exact mc_ok rfl | exact mr_ok | exact fun _ => rfl | exact mt_keep _ _ | exact ms_ok | (refine And.intro ?_ ?_) | (intro _ _; rfl) | ((conv => whnf); (first | exact True.intro | (refine And.intro ?_ ?_))))), by (repeat' (first | exact True.intro | rfl | assumption | exact mc_ok rfl | exact mr_ok | exact fun _ => rfl | exact mt_keep _ _ | exact ms_ok | (refine And.intro ?_ ?_) | (intro _ _; rfl) | ((conv => whnf); (first | exact True.intro | (refine And.intro ?_ ?_))))), ?_⟩
  (conv => whnf)
  refine ⟨[some 7], _, _, hF, ?_⟩
  (repeat' (first | exact True.intro | rfl | assumption | exact mc_ok rfl | exact mr_ok | exact fun _ => rfl | exact mt_keep _ _ | exact ms_ok | (refine And.intro ?_ ?_) | (intro _ _; rfl) | ((conv => whnf); (first | exact True.intro | (refine And.intro ?_ ?_)))))
theorem conCn : ConOk Try.prog (conOf [(26, SBelow.T)]) := conOf_cons (LSpec.call SBelow_nt SBelow_ok) conOf_nil
def SCount : LSpec where
  X := GX × Bs
  k := 5
  pre x := GXok x.1 ∧ x.2.size ≤ 1000000
  args x θ := [.ptr (θ 0) 0, .str x.2]
  objs x θ := x.1.1.objs θ
  out x θ R := ∀ g : GG, MG 1000 1000 x.1.2.1 (x.1.2.2 + 1) g → R (.tup [i64 (belE x.1.2.1 x.2).length, i64 (eK x.2)]) (g.all θ)
theorem SCount_nt : SCount.Nt := ⟨fun _ _ => rfl, by unfold SCount GG.objs; (intros; simp only [ren_all] at *; try assumption), by unfold SCount GG.all; (intros; simp only [ren_all] at *; try assumption)⟩
theorem SCount_ok : SCount.Ok Try.prog 43 := by
  refine LSpec.of_body noGo mixed conCn Try.func43 rfl (by kernel_rfl) fun ⟨⟨g, E, s⟩, k⟩ R ⟨hX, hk⟩ hR => ?_
  have hX : GXok (g, E, s) := hX
  have hk : k.size ≤ 1000000 := hk
  have hQ : ∀ g' : GG, MG 1000 1000 E (s + 1) g' → R (.tup [i64 (belE E k).length, i64 (eK k)]) (g'.all _root_.id) := hR
  (conv => whnf)
  refine ⟨((g, E, s), k), [0, 1, 2, 3, 4], ⟨hX, hk⟩, rfl, by (repeat' (first | exact True.intro | rfl | assumption | exact mc_ok rfl | exact mr_ok | exact fun _ => rfl | exact mt_keep _ _ | exact ms_ok | (refine And.intro ?_ ?_) | (intro _ _; rfl) | ((conv => whnf); (first | exact True.intro | (refine And.intro ?_ ?_))))), by (repeat' (first | exact True.intro | rfl | assumption | exact mc_ok rfl | exact mr_ok | exact fun _ => rfl | exact mt_keep _ _ | exact ms_ok | (refine And.intro ?_ ?_) | (intro _ _; rfl) | ((conv => whnf); (first | exact True.intro | (refine And.intro ?_ ?_))))), fun g' hG' => ?_⟩
  have hF := hQ g' hG'
  (conv => whnf)
  refine ⟨[], _, _, hF, ?_⟩
  (repeat' (first | exact True.intro | rfl | assumption | exact mc_ok rfl | exact mr_ok | exact fun _ => rfl | exact mt_keep _ _ | exact ms_ok | (refine And.intro ?_ ?_) | (intro _ _; rfl) | ((conv => whnf); (first | exact True.intro | (refine And.intro ?_ ?_)))))
end Go.Proofs.Ytddionboojdjlaa
end
section
namespace Go.Proofs.Ytddionboojdjlaa
open Go Go.RowKit Sy Tb Gr
set_option maxRecDepth 100000
set_option maxHeartbeats 4000000

def aboE (E : List Ed) (k : Bs) : List Bs := if validK k = true then sortK (levK (prE E) k).flatten else []
theorem conAb : ConOk Try.prog (conOf [(51, SBoth.T), (52, (SSearch true).T), (50, SConcat.T), (49, SSortS.T)]) :=
  conOf_cons (LSpec.call SBoth_nt SBoth_ok) (conOf_cons (LSpec.call (SSearch_nt true) SSearchT_ok (fun _ => rfl) (show 5 ≤ 60 by decide)) (conOf_cons (LSpec.call SConcat_nt SConcat_ok) (conOf_cons (LSpec.call SSortS_nt SSortS_ok) conOf_nil)))
def SAbove : LSpec where
  X := GX × Bs
  k := 5
  pre x := GXok x.1 ∧ x.2.size ≤ 1000000
  args x θ := [.ptr (θ 0) 0, .str x.2]
  objs x θ := x.1.1.objs θ
  out x θ R := ∀ g : GG, MG 1000 1000 x.1.2.1 (x.1.2.2 + 1) g → R (.tup [.sl (θ 5) 0 1 (aboE x.1.2.1 x.2).length false, i64 (eK x.2)]) (g.all θ ++ [some (stR (aboE x.1.2.1 x.2))])
theorem SAbove_nt : SAbove.Nt := ⟨fun _ _ => rfl, by unfold SAbove GG.objs; (intros; simp only [ren_all] at *; try assumption), by unfold SAbove GG.all; intros; simp only [ren_all] at *; try assumption⟩
theorem SAbove_ok : SAbove.Ok Try.prog 28 := by
  refine LSpec.of_body noGo mixed conAb Try.func28 rfl (by kernel_rfl) fun ⟨⟨g, E, s⟩, k⟩ R ⟨hX, hk⟩ hR => ?_
  have hX : GXok (g, E, s) := hX
  have hk : k.size ≤ 1000000 := hk
  have hl : E.length ≤ 300 := hX.2.1
  have hQ : ∀ g' : GG, MG 1000 1000 E (s + 1) g' → R (.tup [.sl 5 0 1 (aboE E k).length false, i64 (eK k)]) (g'.all _root_.id ++ [some (stR (aboE E k))]) := hR
  (conv => whnf)
  refine ⟨((g, E, s), k), [0, 1, 2, 3, 4], hX, rfl, by (repeat' (first | exact True.intro | rfl | assumption | exact mc_ok rfl | exact mr_ok | exact fun _ => rfl | exact mt_keep _ _ | exact ms_ok | (refine And.intro ?_ ?_) | (intro _ _; rfl) | ((conv => whnf); (first | exact True.intro | (refine And.intro ?_ ?_))))), by (repeat' (first | exact True.intro | rfl | assumption | exact mc_ok rfl | exact mr_ok | exact fun _ => rfl | exact mt_keep _ _ | exact ms_ok | (refine And.intro ?_ ?_) | (intro _ _; rfl) | ((conv => whnf); (first | exact True.intro | (refine And.intro ?_ ?_))))), fun g' hG' => ?_⟩
  have hG' : MG 1000 1000 E (s + 1) g' := hG'
  (conv => whnf)
  constructor
  · intro h
    have h : ¬ validK k = true := fun q => by
      have h : (!decide (eK k = 0)) = true := h
      rw [show eK k = 0 from if_pos q] at h
      exact absurd h (by decide)
    have hF := hQ g' hG'
    rw [show aboE E k = [] from if_neg h] at hF
    (conv => whnf)
    refine ⟨[none], _, _, hF, ?_⟩
    (repeat' (first | exact True.intro | rfl | assumption | exact mc_ok rfl | exact mr_ok | exact fun _ => rfl | exact mt_keep _ _ | exact ms_ok | (refine And.intro ?_ ?_) | (intro _ _; rfl) | ((conv => whnf); (first | exact True.intro | (refine And.intro ?_ ?_)))))
  · intro h
    have hv : validK k = true := Decidable.byContradiction fun q => by
      have h : (!decide (eK k = 0)) = false := h
      rw [show eK k = 2 from if_neg q] at h
      exact absurd h (by decide)
    have e : eK k = 0 := if_pos hv
    have hF := hQ g' hG'
    rw [e, show aboE E k = sortK (levK (prE E) k).flatten from if_pos hv] at hF
    have hC := prI_of hG' hl
    (conv => whnf)
    refine ⟨((g', k), prE E, E.map (·.1)), [0, 1, 2, 3, 4], ⟨hC, hk⟩, rfl, by (repeat' (first | exact True.intro | rfl | assumption | exact mc_ok rfl | exact mr_ok | exact fun _ => rfl | exact mt_keep _ _ | exact ms_ok | (refine And.intro ?_ ?_) | (intro _ _; rfl) | ((conv => whnf); (first | exact True.intro | (refine And.intro ?_ ?_))))), by (repeat' (first | exact True.intro | rfl | assumption | exact mc_ok rfl | exact mr_ok | exact fun _ => rfl | exact mt_keep _ _ | exact ms_ok | (refine And.intro ?_ ?_) | (intro _ _; rfl) | ((conv => whnf); (first | exact True.intro | (refine And.intro ?_ ?_))))), fun M O h1 h2 => ?_⟩
    have h1 : levs O = levK (prE E) k := h1
    have ht0 : totL O ≤ E.length := by
      have := levK_tot (ch := prE E) (a := k) (B := E.map (·.1)) fun k y hy => List.mem_map.2 ⟨_, mem_prE.1 hy, rfl⟩
      rw [List.length_map] at this
      unfold totL
      rwa [h1]
    have hl2 : O.length ≤ 100000 := by
      have := bfs_le (ch := prE E) lfuel [k] [k]
      rw [show bfs (prE E) lfuel [k] [k] = levs O from h1.symm] at this
      unfold levs at this
      rw [List.length_map] at this
      exact Nat.le_trans this (by decide)
    rw [← h1, sortK_len] at hF
    have hn : (levs O).flatten.length ≤ 1000000 := by unfold totL at ht0; omega
    (conv => whnf)
    refine ⟨(M, O), [5, 6], ⟨h2, show totL O ≤ 1000000 by omega, hl2⟩, rfl, by (repeat' (first | exact True.intro | rfl | assumption | exact mc_ok rfl | exact mr_ok | exact fun _ => rfl | exact mt_keep _ _ | exact ms_ok | (refine And.intro ?_ ?_) | (intro _ _; rfl) | ((conv => whnf); (first | exact True.intro | (refine And.intro ?_ ?_))))), by (repeat' (first | exact True.intro | rfl | assumption | exact mc_ok rfl | exact mr_ok | exact fun _ => rfl | exact mt_keep _ _ | exact ms_ok | (refine And.intro ?_ ?_) | (intro _ _; rfl) | ((conv => whnf); (first | exact True.intro | (refine And.intro ?_ ?_))))), ?_⟩
    (conv => whnf)
    refine ⟨(levs O).flatten, [7], hn, rfl, by (repeat' (first | exact True.intro | rfl | assumption | exact mc_ok rfl | exact mr_ok | exact fun _ => rfl | exact mt_keep _ _ | exact ms_ok | (refine And.intro ?_ ?_) | (intro _ _; rfl) | ((conv => whnf); (first | exact True.intro | (refine And.intro ?_ ?_))))), by (repeat' (first | exact True.intro | rfl | assumption | exact mc_ok rfl | exact mr_ok | exact fun _ => rfl | exact mt_keep _ _ | exact ms_ok | (refine And.intro ?_ ?_) | (intro _ _; rfl) | ((conv => whnf); (first | exact True.intro | (refine And.intro ?_ ?_))))), ?_⟩
    (conv => whnf)
    refine ⟨[some 7], _, _, hF, ?_⟩
    (repeat' (first | exact True.intro | rfl | assumption | exact mc_ok rfl | exact mr_ok | exact fun _ => rfl | exact mt_keep _ _ | exact ms_ok | (refine And.intro ?_ ?_) | (intro _ _; rfl) | ((conv => whnf); (first | exact True.intro | (refine And.intro ?_ ?_)))))
end Go.Proofs.Ytddionboojdjlaa
end
