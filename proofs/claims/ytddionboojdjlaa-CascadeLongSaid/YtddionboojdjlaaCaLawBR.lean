/- What the law's own functions compute: tombs, below, above. -/
import Derived.Test.YtddionboojdjlaaCaLawR
namespace Go.Proofs.Ytddionboojdjlaa
open Go Go.RowKit Sy Tb Gr
set_option maxRecDepth 100000
set_option maxHeartbeats 8000000

theorem aboE_len (E : List Ed) (k : Bs) : (aboE E k).length ≤ E.length := by
  unfold aboE
  split
  · rw [sortK_len]
    have := levK_tot (ch := prE E) (a := k) (B := E.map (·.1)) fun k y hy => List.mem_map.2 ⟨_, mem_prE.1 hy, rfl⟩
    rwa [List.length_map] at this
  · exact Nat.zero_le _

theorem conTmNN : ConOk Try.prog (conOf [(39, STombsC.T), (38, SStrN.T), (36, SStringsN.T)]) := conOf_cons (LSpec.call STombsC_nt STombsC_ok) (conOf_cons (LSpec.call SStrN_nt SStrN_ok) (conOf_cons (LSpec.call SStringsN_nt SStringsN_ok) conOf_nil))
def SLTmNN : LSpec where
  X := GX × (List Bs) × List Bs × List Bs
  k := 7
  pre x := GXok x.1 ∧ x.2.2.1.length ≤ 100000 ∧ flB x.2.2.1 (ndK x.1.2.1) = x.2.2.2 ∧ x.2.2.1 <+: x.2.1
  args x θ := [.ptr (θ 0) 0, .sl (θ 5) 0 1 x.2.2.1.length false, .sl (θ 6) 0 1 x.2.2.2.length false, i64 0]
  objs x θ := x.1.1.objs θ ++ [stR x.2.1, stR x.2.2.2]
  out x θ R := ∀ g : GG, MG 1000 1000 x.1.2.1 (x.1.2.2 + 1) g → R (.sb true) (g.all θ ++ [some (stR x.2.1), some (stR x.2.2.2)])
theorem SLTmNN_nt : SLTmNN.Nt := ⟨fun _ _ => rfl, by unfold SLTmNN GG.objs; intros; simp only [ren_all, List.map_append] at *; try rfl, by unfold SLTmNN GG.all; intros; simp only [ren_all, List.map_append] at *; try assumption⟩
theorem SLTmNN_ok : SLTmNN.Ok Try.prog 15 := by
  refine LSpec.of_body noGo mixed conTmNN Try.func15 rfl (by kernel_rfl) fun ⟨⟨g, E, s⟩, W, L, F⟩ R ⟨hX, hl, hf, hw⟩ hR => ?_
  have hX : GXok (g, E, s) := hX
  have hEl : E.length ≤ 300 := hX.2.1
  have hf2 : flB L (ndK E) = F := hf
  have hl2 : L.length ≤ 100000 := hl
  have hX2 : GXok (g, E, s) := hX
  have hw2 : L <+: W := hw

  clear hf
  subst hf2
  have hfl : (flB L (ndK E)).length ≤ 1000000 := by have := flB_le (H := L) (l := ndK E); have := ndK_len (E := E); omega
  have hQ : ∀ g' : GG, MG 1000 1000 E (s + 1) g' → R (.sb true) (g'.all _root_.id ++ [some (stR W), some (stR (flB L (ndK E)))]) := hR

  (conv => whnf)
  refine ⟨some (fun q => [.str (L.getD q eS)]), ?_⟩
  (conv => whnf)
  refine ⟨by show 0 + L.length ≤ W.length; have := hw2.length_le; omega, by show L.length * (16 + 1) ≤ 1000000000; omega, fun q hq => str_view hw2 q hq, ?_⟩
  (conv => whnf)
  refine ⟨((g, E, s), L), [0, 1, 2, 3, 4, 7], ⟨hX2, hl2⟩, rfl, by (repeat' (first | exact True.intro | rfl | assumption | exact mc_ok rfl | exact mr_ok | exact fun _ => rfl | exact mt_keep _ _ | exact ms_ok | exact c_keep _ _ _ | (refine And.intro ?_ ?_) | (intro _ _; rfl) | ((conv => whnf); (first | exact True.intro | (refine And.intro ?_ ?_))))), by (repeat' (first | exact True.intro | rfl | assumption | exact mc_ok rfl | exact mr_ok | exact fun _ => rfl | exact mt_keep _ _ | exact ms_ok | exact c_keep _ _ _ | (refine And.intro ?_ ?_) | (intro _ _; rfl) | ((conv => whnf); (first | exact True.intro | (refine And.intro ?_ ?_))))), fun g' hG => ?_⟩
  have hF := hQ g' hG
  (conv => whnf)
  refine ⟨(L, W), [7, 5], ⟨hw2, by show L.length ≤ 1000000; omega⟩, rfl, by (repeat' (first | exact True.intro | rfl | assumption | exact mc_ok rfl | exact mr_ok | exact fun _ => rfl | exact mt_keep _ _ | exact ms_ok | exact c_keep _ _ _ | (refine And.intro ?_ ?_) | (intro _ _; rfl) | ((conv => whnf); (first | exact True.intro | (refine And.intro ?_ ?_))))), by (repeat' (first | exact True.intro | rfl | assumption | exact mc_ok rfl | exact mr_ok | exact fun _ => rfl | exact mt_keep _ _ | exact ms_ok | exact c_keep _ _ _ | (refine And.intro ?_ ?_) | (intro _ _; rfl) | ((conv => whnf); (first | exact True.intro | (refine And.intro ?_ ?_))))), ?_⟩
  (conv => whnf)
  refine ⟨fun _ => ?_, fun hh => Bool.noConfusion (show true = false from hh)⟩
  (conv => whnf)
  refine ⟨(flB L (ndK E), flB L (ndK E), 0), [8, 6], ⟨List.prefix_rfl, hfl⟩, rfl, by (repeat' (first | exact True.intro | rfl | assumption | exact mc_ok rfl | exact mr_ok | exact fun _ => rfl | exact mt_keep _ _ | exact ms_ok | exact c_keep _ _ _ | (refine And.intro ?_ ?_) | (intro _ _; rfl) | ((conv => whnf); (first | exact True.intro | (refine And.intro ?_ ?_))))), by (repeat' (first | exact True.intro | rfl | assumption | exact mc_ok rfl | exact mr_ok | exact fun _ => rfl | exact mt_keep _ _ | exact ms_ok | exact c_keep _ _ _ | (refine And.intro ?_ ?_) | (intro _ _; rfl) | ((conv => whnf); (first | exact True.intro | (refine And.intro ?_ ?_))))), ?_⟩
  (conv => whnf)
  refine ⟨[], _, _, hF, ?_⟩
  (repeat' (first | exact True.intro | rfl | assumption | exact mc_ok rfl | exact mr_ok | exact fun _ => rfl | exact mt_keep _ _ | exact ms_ok | exact c_keep _ _ _ | (refine And.intro ?_ ?_) | (intro _ _; rfl) | ((conv => whnf); (first | exact True.intro | (refine And.intro ?_ ?_)))))

theorem conLBelN : ConOk Try.prog (conOf [(26, SBelow.T), (43, SCount.T), (36, SStringsN.T)]) := conOf_cons (LSpec.call SBelow_nt SBelow_ok) (conOf_cons (LSpec.call SCount_nt SCount_ok) (conOf_cons (LSpec.call SStringsN_nt SStringsN_ok) conOf_nil))
def SLBelN : LSpec where
  X := GX × Bs × List Bs × Int
  k := 6
  pre x := (GXok x.1 ∧ x.1.2.2 + 2 < 100000000) ∧ x.2.1.size ≤ 1000000 ∧ belE x.1.2.1 x.2.1 = x.2.2.1 ∧ eK x.2.1 = x.2.2.2
  args x θ := [.ptr (θ 0) 0, .str x.2.1, .sl (θ 5) 0 1 x.2.2.1.length false, i64 x.2.2.2]
  objs x θ := x.1.1.objs θ ++ [stR x.2.2.1]
  out x θ R := ∀ g : GG, MG 1000 1000 x.1.2.1 (x.1.2.2 + 2) g → R (.sb true) (g.all θ ++ [some (stR x.2.2.1)])
theorem SLBelN_nt : SLBelN.Nt := ⟨fun _ _ => rfl, by unfold SLBelN GG.objs; intros; simp only [ren_all, List.map_append] at *; try rfl, by unfold SLBelN GG.all; intros; simp only [ren_all, List.map_append] at *; try assumption⟩
theorem SLBelN_ok : SLBelN.Ok Try.prog 21 := by
  refine LSpec.of_body noGo mixed conLBelN Try.func21 rfl (by kernel_rfl) fun ⟨⟨g, E, s⟩, k, F, e⟩ R ⟨⟨hX, hs⟩, hk, hf, he⟩ hR => ?_
  have hEl : E.length ≤ 300 := hX.2.1
  have hs2 : s + 2 < 100000000 := hs
  have hk2 : k.size ≤ 1000000 := hk
  have hX2 : GXok (g, E, s) := hX
  have hf2 : belE E k = F := hf
  have he2 : eK k = e := he

  clear hf
  subst hf2
  clear he
  subst he2
  have hfl : (belE E k).length ≤ 1000000 := by have := belE_len E k; omega
  have hQ : ∀ g' : GG, MG 1000 1000 E (s + 2) g' → R (.sb true) (g'.all _root_.id ++ [some (stR (belE E k))]) := hR
  (conv => whnf)
  refine ⟨((g, E, s), k), [0, 1, 2, 3, 4], ⟨hX2, hk2⟩, rfl, by (repeat' (first | exact True.intro | rfl | assumption | exact mc_ok rfl | exact mr_ok | exact fun _ => rfl | exact mt_keep _ _ | exact ms_ok | exact c_keep _ _ _ | (refine And.intro ?_ ?_) | (intro _ _; rfl) | ((conv => whnf); (first | exact True.intro | (refine And.intro ?_ ?_))))), by (repeat' (first | exact True.intro | rfl | assumption | exact mc_ok rfl | exact mr_ok | exact fun _ => rfl | exact mt_keep _ _ | exact ms_ok | exact c_keep _ _ _ | (refine And.intro ?_ ?_) | (intro _ _; rfl) | ((conv => whnf); (first | exact True.intro | (refine And.intro ?_ ?_))))), fun g' hG => ?_⟩
  have hG : MG 1000 1000 E (s + 1) g' := hG

  (conv => whnf)
  refine ⟨((g', E, s + 1), k), [0, 1, 2, 3, 4], ⟨⟨hG, hX2.2.1, by show s + 1 < 100000000; omega⟩, hk2⟩, rfl, by (repeat' (first | exact True.intro | rfl | assumption | exact mc_ok rfl | exact mr_ok | exact fun _ => rfl | exact mt_keep _ _ | exact ms_ok | exact c_keep _ _ _ | (refine And.intro ?_ ?_) | (intro _ _; rfl) | ((conv => whnf); (first | exact True.intro | (refine And.intro ?_ ?_))))), by (repeat' (first | exact True.intro | rfl | assumption | exact mc_ok rfl | exact mr_ok | exact fun _ => rfl | exact mt_keep _ _ | exact ms_ok | exact c_keep _ _ _ | (refine And.intro ?_ ?_) | (intro _ _; rfl) | ((conv => whnf); (first | exact True.intro | (refine And.intro ?_ ?_))))), fun g2 hG2 => ?_⟩
  have hF := hQ g2 (by have hG2 : MG 1000 1000 E (s + 1 + 1) g2 := hG2; rwa [show s + 1 + 1 = s + 2 by omega] at hG2)
  (conv => whnf)
  refine ⟨(belE E k, belE E k, eK k), [6, 5], ⟨List.prefix_rfl, hfl⟩, rfl, by (repeat' (first | exact True.intro | rfl | assumption | exact mc_ok rfl | exact mr_ok | exact fun _ => rfl | exact mt_keep _ _ | exact ms_ok | exact c_keep _ _ _ | (refine And.intro ?_ ?_) | (intro _ _; rfl) | ((conv => whnf); (first | exact True.intro | (refine And.intro ?_ ?_))))), by (repeat' (first | exact True.intro | rfl | assumption | exact mc_ok rfl | exact mr_ok | exact fun _ => rfl | exact mt_keep _ _ | exact ms_ok | exact c_keep _ _ _ | (refine And.intro ?_ ?_) | (intro _ _; rfl) | ((conv => whnf); (first | exact True.intro | (refine And.intro ?_ ?_))))), ?_⟩
  (conv => whnf)
  refine ⟨fun _ => ?_, fun hh => Bool.noConfusion (show true = false from hh)⟩
  (conv => whnf)
  refine ⟨fun _ => ?_, fun hh => absurd (show decide ((((belE E k).length : Nat) : Int) = (((belE E k).length : Nat) : Int)) = false from hh) (by simp)⟩
  (conv => whnf)
  refine ⟨[], _, _, hF, ?_⟩
  (repeat' (first | exact True.intro | rfl | assumption | exact mc_ok rfl | exact mr_ok | exact fun _ => rfl | exact mt_keep _ _ | exact ms_ok | exact c_keep _ _ _ | (refine And.intro ?_ ?_) | (intro _ _; rfl) | ((conv => whnf); (first | exact True.intro | (refine And.intro ?_ ?_)))))
  all_goals exact (decide_eq_true rfl).symm

theorem conLAboN : ConOk Try.prog (conOf [(28, SAbove.T), (36, SStringsN.T)]) := conOf_cons (LSpec.call SAbove_nt SAbove_ok) (conOf_cons (LSpec.call SStringsN_nt SStringsN_ok) conOf_nil)
def SLAboN : LSpec where
  X := GX × Bs × List Bs × Int
  k := 6
  pre x := (GXok x.1 ∧ x.1.2.2 + 2 < 100000000) ∧ x.2.1.size ≤ 1000000 ∧ aboE x.1.2.1 x.2.1 = x.2.2.1 ∧ eK x.2.1 = x.2.2.2
  args x θ := [.ptr (θ 0) 0, .str x.2.1, .sl (θ 5) 0 1 x.2.2.1.length false, i64 x.2.2.2]
  objs x θ := x.1.1.objs θ ++ [stR x.2.2.1]
  out x θ R := ∀ g : GG, MG 1000 1000 x.1.2.1 (x.1.2.2 + 1) g → R (.sb true) (g.all θ ++ [some (stR x.2.2.1)])
theorem SLAboN_nt : SLAboN.Nt := ⟨fun _ _ => rfl, by unfold SLAboN GG.objs; intros; simp only [ren_all, List.map_append] at *; try rfl, by unfold SLAboN GG.all; intros; simp only [ren_all, List.map_append] at *; try assumption⟩
theorem SLAboN_ok : SLAboN.Ok Try.prog 23 := by
  refine LSpec.of_body noGo mixed conLAboN Try.func23 rfl (by kernel_rfl) fun ⟨⟨g, E, s⟩, k, F, e⟩ R ⟨⟨hX, hs⟩, hk, hf, he⟩ hR => ?_
  have hEl : E.length ≤ 300 := hX.2.1
  have hs2 : s + 2 < 100000000 := hs
  have hk2 : k.size ≤ 1000000 := hk
  have hX2 : GXok (g, E, s) := hX
  have hf2 : aboE E k = F := hf
  have he2 : eK k = e := he

  clear hf
  subst hf2
  clear he
  subst he2
  have hfl : (aboE E k).length ≤ 1000000 := by have := aboE_len E k; omega
  have hQ : ∀ g' : GG, MG 1000 1000 E (s + 1) g' → R (.sb true) (g'.all _root_.id ++ [some (stR (aboE E k))]) := hR
  (conv => whnf)
  refine ⟨((g, E, s), k), [0, 1, 2, 3, 4], ⟨hX2, hk2⟩, rfl, by (repeat' (first | exact True.intro | rfl | assumption | exact mc_ok rfl | exact mr_ok | exact fun _ => rfl | exact mt_keep _ _ | exact ms_ok | exact c_keep _ _ _ | (refine And.intro ?_ ?_) | (intro _ _; rfl) | ((conv => whnf); (first | exact True.intro | (refine And.intro ?_ ?_))))), by (repeat' (first | exact True.intro | rfl | assumption | exact mc_ok rfl | exact mr_ok | exact fun _ => rfl | exact mt_keep _ _ | exact ms_ok | exact c_keep _ _ _ | (refine And.intro ?_ ?_) | (intro _ _; rfl) | ((conv => whnf); (first | exact True.intro | (refine And.intro ?_ ?_))))), fun g' hG => ?_⟩
  have hG : MG 1000 1000 E (s + 1) g' := hG

  have hF := hQ g' hG
  (conv => whnf)
  refine ⟨(aboE E k, aboE E k, eK k), [6, 5], ⟨List.prefix_rfl, hfl⟩, rfl, by (repeat' (first | exact True.intro | rfl | assumption | exact mc_ok rfl | exact mr_ok | exact fun _ => rfl | exact mt_keep _ _ | exact ms_ok | exact c_keep _ _ _ | (refine And.intro ?_ ?_) | (intro _ _; rfl) | ((conv => whnf); (first | exact True.intro | (refine And.intro ?_ ?_))))), by (repeat' (first | exact True.intro | rfl | assumption | exact mc_ok rfl | exact mr_ok | exact fun _ => rfl | exact mt_keep _ _ | exact ms_ok | exact c_keep _ _ _ | (refine And.intro ?_ ?_) | (intro _ _; rfl) | ((conv => whnf); (first | exact True.intro | (refine And.intro ?_ ?_))))), ?_⟩
  (conv => whnf)
  refine ⟨[], _, _, hF, ?_⟩
  (repeat' (first | exact True.intro | rfl | assumption | exact mc_ok rfl | exact mr_ok | exact fun _ => rfl | exact mt_keep _ _ | exact ms_ok | exact c_keep _ _ _ | (refine And.intro ?_ ?_) | (intro _ _; rfl) | ((conv => whnf); (first | exact True.intro | (refine And.intro ?_ ?_)))))

theorem conLBel0 : ConOk Try.prog (conOf [(26, SBelow.T), (43, SCount.T), (36, SStrings0.T)]) := conOf_cons (LSpec.call SBelow_nt SBelow_ok) (conOf_cons (LSpec.call SCount_nt SCount_ok) (conOf_cons (LSpec.call SStrings0_nt SStrings0_ok) conOf_nil))
def SLBel0 : LSpec where
  X := GX × Bs × List Bs × Int
  k := 5
  pre x := (GXok x.1 ∧ x.1.2.2 + 2 < 100000000) ∧ x.2.1.size ≤ 1000000 ∧ belE x.1.2.1 x.2.1 = x.2.2.1 ∧ eK x.2.1 = x.2.2.2 ∧ x.2.2.1 = []
  args x θ := [.ptr (θ 0) 0, .str x.2.1, .nils, i64 x.2.2.2]
  objs x θ := x.1.1.objs θ ++ []
  out x θ R := ∀ g : GG, MG 1000 1000 x.1.2.1 (x.1.2.2 + 2) g → R (.sb true) (g.all θ ++ [])
theorem SLBel0_nt : SLBel0.Nt := ⟨fun _ _ => rfl, by unfold SLBel0 GG.objs; intros; simp only [ren_all] at *; try rfl, by unfold SLBel0 GG.all; intros; simp only [ren_all] at *; try assumption⟩
theorem SLBel0_ok : SLBel0.Ok Try.prog 21 := by
  refine LSpec.of_body noGo mixed conLBel0 Try.func21 rfl (by kernel_rfl) fun ⟨⟨g, E, s⟩, k, F, e⟩ R ⟨⟨hX, hs⟩, hk, hf, he, h0⟩ hR => ?_
  have hEl : E.length ≤ 300 := hX.2.1
  have hs2 : s + 2 < 100000000 := hs
  have hk2 : k.size ≤ 1000000 := hk
  have hX2 : GXok (g, E, s) := hX
  have hf2 : belE E k = F := hf
  have he2 : eK k = e := he
  have h02 : F = [] := h0
  clear hf
  subst hf2
  clear he
  subst he2
  have hfl : (belE E k).length ≤ 1000000 := by have := belE_len E k; omega
  have hQ : ∀ g' : GG, MG 1000 1000 E (s + 2) g' → R (.sb true) (g'.all _root_.id ++ []) := hR
  (conv => whnf)
  refine ⟨((g, E, s), k), [0, 1, 2, 3, 4], ⟨hX2, hk2⟩, rfl, by (repeat' (first | exact True.intro | rfl | assumption | exact mc_ok rfl | exact mr_ok | exact fun _ => rfl | exact mt_keep _ _ | exact ms_ok | exact c_keep _ _ _ | (refine And.intro ?_ ?_) | (intro _ _; rfl) | ((conv => whnf); (first | exact True.intro | (refine And.intro ?_ ?_))))), by (repeat' (first | exact True.intro | rfl | assumption | exact mc_ok rfl | exact mr_ok | exact fun _ => rfl | exact mt_keep _ _ | exact ms_ok | exact c_keep _ _ _ | (refine And.intro ?_ ?_) | (intro _ _; rfl) | ((conv => whnf); (first | exact True.intro | (refine And.intro ?_ ?_))))), fun g' hG => ?_⟩
  have hG : MG 1000 1000 E (s + 1) g' := hG

  (conv => whnf)
  refine ⟨((g', E, s + 1), k), [0, 1, 2, 3, 4], ⟨⟨hG, hX2.2.1, by show s + 1 < 100000000; omega⟩, hk2⟩, rfl, by (repeat' (first | exact True.intro | rfl | assumption | exact mc_ok rfl | exact mr_ok | exact fun _ => rfl | exact mt_keep _ _ | exact ms_ok | exact c_keep _ _ _ | (refine And.intro ?_ ?_) | (intro _ _; rfl) | ((conv => whnf); (first | exact True.intro | (refine And.intro ?_ ?_))))), by (repeat' (first | exact True.intro | rfl | assumption | exact mc_ok rfl | exact mr_ok | exact fun _ => rfl | exact mt_keep _ _ | exact ms_ok | exact c_keep _ _ _ | (refine And.intro ?_ ?_) | (intro _ _; rfl) | ((conv => whnf); (first | exact True.intro | (refine And.intro ?_ ?_))))), fun g2 hG2 => ?_⟩
  have hF := hQ g2 (by have hG2 : MG 1000 1000 E (s + 1 + 1) g2 := hG2; rwa [show s + 1 + 1 = s + 2 by omega] at hG2)
  (conv => whnf)
  refine ⟨(belE E k, (), eK k), [5], ⟨h02, hfl⟩, rfl, by (repeat' (first | exact True.intro | rfl | assumption | exact mc_ok rfl | exact mr_ok | exact fun _ => rfl | exact mt_keep _ _ | exact ms_ok | exact c_keep _ _ _ | (refine And.intro ?_ ?_) | (intro _ _; rfl) | ((conv => whnf); (first | exact True.intro | (refine And.intro ?_ ?_))))), by (repeat' (first | exact True.intro | rfl | assumption | exact mc_ok rfl | exact mr_ok | exact fun _ => rfl | exact mt_keep _ _ | exact ms_ok | exact c_keep _ _ _ | (refine And.intro ?_ ?_) | (intro _ _; rfl) | ((conv => whnf); (first | exact True.intro | (refine And.intro ?_ ?_))))), ?_⟩
  (conv => whnf)
  refine ⟨fun _ => ?_, fun hh => Bool.noConfusion (show true = false from hh)⟩
  (conv => whnf)
  refine ⟨fun _ => ?_, fun hh => absurd (show decide ((((belE E k).length : Nat) : Int) = 0) = false from hh) (by rw [h02]; decide)⟩
  (conv => whnf)
  refine ⟨[], _, _, hF, ?_⟩
  (repeat' (first | exact True.intro | rfl | assumption | exact mc_ok rfl | exact mr_ok | exact fun _ => rfl | exact mt_keep _ _ | exact ms_ok | exact c_keep _ _ _ | (refine And.intro ?_ ?_) | (intro _ _; rfl) | ((conv => whnf); (first | exact True.intro | (refine And.intro ?_ ?_)))))
  all_goals exact (decide_eq_true rfl).symm

theorem conLAbo0 : ConOk Try.prog (conOf [(28, SAbove.T), (36, SStrings0.T)]) := conOf_cons (LSpec.call SAbove_nt SAbove_ok) (conOf_cons (LSpec.call SStrings0_nt SStrings0_ok) conOf_nil)
def SLAbo0 : LSpec where
  X := GX × Bs × List Bs × Int
  k := 5
  pre x := (GXok x.1 ∧ x.1.2.2 + 2 < 100000000) ∧ x.2.1.size ≤ 1000000 ∧ aboE x.1.2.1 x.2.1 = x.2.2.1 ∧ eK x.2.1 = x.2.2.2 ∧ x.2.2.1 = []
  args x θ := [.ptr (θ 0) 0, .str x.2.1, .nils, i64 x.2.2.2]
  objs x θ := x.1.1.objs θ ++ []
  out x θ R := ∀ g : GG, MG 1000 1000 x.1.2.1 (x.1.2.2 + 1) g → R (.sb true) (g.all θ ++ [])
theorem SLAbo0_nt : SLAbo0.Nt := ⟨fun _ _ => rfl, by unfold SLAbo0 GG.objs; intros; simp only [ren_all] at *; try rfl, by unfold SLAbo0 GG.all; intros; simp only [ren_all] at *; try assumption⟩
theorem SLAbo0_ok : SLAbo0.Ok Try.prog 23 := by
  refine LSpec.of_body noGo mixed conLAbo0 Try.func23 rfl (by kernel_rfl) fun ⟨⟨g, E, s⟩, k, F, e⟩ R ⟨⟨hX, hs⟩, hk, hf, he, h0⟩ hR => ?_
  have hEl : E.length ≤ 300 := hX.2.1
  have hs2 : s + 2 < 100000000 := hs
  have hk2 : k.size ≤ 1000000 := hk
  have hX2 : GXok (g, E, s) := hX
  have hf2 : aboE E k = F := hf
  have he2 : eK k = e := he
  have h02 : F = [] := h0
  clear hf
  subst hf2
  clear he
  subst he2
  have hfl : (aboE E k).length ≤ 1000000 := by have := aboE_len E k; omega
  have hQ : ∀ g' : GG, MG 1000 1000 E (s + 1) g' → R (.sb true) (g'.all _root_.id ++ []) := hR
  (conv => whnf)
  refine ⟨((g, E, s), k), [0, 1, 2, 3, 4], ⟨hX2, hk2⟩, rfl, by (repeat' (first | exact True.intro | rfl | assumption | exact mc_ok rfl | exact mr_ok | exact fun _ => rfl | exact mt_keep _ _ | exact ms_ok | exact c_keep _ _ _ | (refine And.intro ?_ ?_) | (intro _ _; rfl) | ((conv => whnf); (first | exact True.intro | (refine And.intro ?_ ?_))))), by (repeat' (first | exact True.intro | rfl | assumption | exact mc_ok rfl | exact mr_ok | exact fun _ => rfl | exact mt_keep _ _ | exact ms_ok | exact c_keep _ _ _ | (refine And.intro ?_ ?_) | (intro _ _; rfl) | ((conv => whnf); (first | exact True.intro | (refine And.intro ?_ ?_))))), fun g' hG => ?_⟩
  have hG : MG 1000 1000 E (s + 1) g' := hG

  have hF := hQ g' hG
  (conv => whnf)
  refine ⟨(aboE E k, (), eK k), [5], ⟨h02, hfl⟩, rfl, by (repeat' (first | exact True.intro | rfl | assumption | exact mc_ok rfl | exact mr_ok | exact fun _ => rfl | exact mt_keep _ _ | exact ms_ok | exact c_keep _ _ _ | (refine And.intro ?_ ?_) | (intro _ _; rfl) | ((conv => whnf); (first | exact True.intro | (refine And.intro ?_ ?_))))), by (repeat' (first | exact True.intro | rfl | assumption | exact mc_ok rfl | exact mr_ok | exact fun _ => rfl | exact mt_keep _ _ | exact ms_ok | exact c_keep _ _ _ | (refine And.intro ?_ ?_) | (intro _ _; rfl) | ((conv => whnf); (first | exact True.intro | (refine And.intro ?_ ?_))))), ?_⟩
  (conv => whnf)
  refine ⟨[], _, _, hF, ?_⟩
  (repeat' (first | exact True.intro | rfl | assumption | exact mc_ok rfl | exact mr_ok | exact fun _ => rfl | exact mt_keep _ _ | exact ms_ok | exact c_keep _ _ _ | (refine And.intro ?_ ?_) | (intro _ _; rfl) | ((conv => whnf); (first | exact True.intro | (refine And.intro ?_ ?_)))))

end Go.Proofs.Ytddionboojdjlaa
