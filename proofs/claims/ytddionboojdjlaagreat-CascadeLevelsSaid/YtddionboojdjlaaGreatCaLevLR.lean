/- The law CascadeLevels. -/
import Derived.Test.YtddionboojdjlaaGreatCaKnownR
import Derived.Test.YtddionboojdjlaaGreatCaRefIR
import Derived.Test.YtddionboojdjlaaGreatK16CascadeLevels
namespace Go.Proofs.YtddionboojdjlaaGreat
open Go Go.RowKit Sy Tb Gr
set_option maxRecDepth 100000
set_option maxHeartbeats 16000000

def SLLev0 : LSpec where
  X := GX × Bs × Int
  k := 5
  pre x := GXok x.1 ∧ x.2.1.size ≤ 1000000 ∧ levE x.1.2.1 x.2.1 = [] ∧ eK x.2.1 = x.2.2
  args x θ := [.ptr (θ 0) 0, .str x.2.1, .nils, i64 x.2.2]
  objs x θ := x.1.1.objs θ
  out x θ R := ∀ g : GG, MG 1000 1000 x.1.2.1 (x.1.2.2 + 1) g → R (.sb true) (g.all θ)
theorem SLLev0_nt : SLLev0.Nt := ⟨fun _ _ => rfl, by unfold SLLev0 GG.objs; (intros; simp only [ren_all] at *; try assumption), by unfold SLLev0 GG.all; (intros; simp only [ren_all] at *; try assumption)⟩
theorem SLLev0_ok : SLLev0.Ok Tryz.prog 9 := by
  refine LSpec.of_body noGo mixed conLv Tryz.func9 rfl (by kernel_rfl) fun ⟨⟨g, E, s⟩, k, e⟩ R ⟨hX, hk, hO, he⟩ hR => ?_
  have hX : GXok (g, E, s) := hX
  have hk : k.size ≤ 1000000 := hk
  have hO : levE E k = [] := hO
  have he : eK k = e := he
  have hQ : ∀ g' : GG, MG 1000 1000 E (s + 1) g' → R (.sb true) (g'.all _root_.id) := hR
  (conv => whnf)
  refine ⟨((g, E, s), k), [0, 1, 2, 3, 4], ⟨hX, hk⟩, rfl, by (repeat' (first | exact True.intro | rfl | assumption | exact mc_ok rfl | exact mr_ok | exact fun _ => rfl | exact mt_keep _ _ | exact ms_ok | exact c_keep _ _ _ | (refine And.intro ?_ ?_) | (intro _ _; rfl) | ((conv => whnf); (first | exact True.intro | (refine And.intro ?_ ?_))))), by (repeat' (first | exact True.intro | rfl | assumption | exact mc_ok rfl | exact mr_ok | exact fun _ => rfl | exact mt_keep _ _ | exact ms_ok | exact c_keep _ _ _ | (refine And.intro ?_ ?_) | (intro _ _; rfl) | ((conv => whnf); (first | exact True.intro | (refine And.intro ?_ ?_))))), fun g' M1 O1 hG h1 h2 => ?_⟩
  have hF := hQ g' hG
  have h1 : levs O1 = levE E k := h1
  have h0 : O1 = [] := by
    rw [hO] at h1
    unfold levs at h1
    exact List.map_eq_nil_iff.1 h1
  clear h1 h2
  subst h0
  (conv => whnf)
  refine ⟨fun _ => ?_, fun hh => absurd hh (by decide)⟩
  (conv => whnf)
  refine ⟨fun hh => absurd (show (!decide (eK k = e)) = true from hh) (by rw [he]; simp), fun _ => ?_⟩
  (conv => whnf)
  refine .inr ?_
  (conv => whnf)
  refine ⟨fun hh => absurd hh (by decide), fun _ => ?_⟩
  (conv => whnf)
  refine ⟨[], _, _, hF, ?_⟩
  (repeat' (first | exact True.intro | rfl | assumption | exact mc_ok rfl | exact mr_ok | exact fun _ => rfl | exact mt_keep _ _ | exact ms_ok | exact c_keep _ _ _ | (refine And.intro ?_ ?_) | (intro _ _; rfl) | ((conv => whnf); (first | exact True.intro | (refine And.intro ?_ ?_)))))
theorem conLL : ConOk Tryz.prog (conOf [(4, SEdges3.T), (5, SKnown.T), (6, SMadeZ.T), (7, SRNodes.T), (8, SRKey.T),
    (9, fun a s K => SLLev.T a s K ∨ SLLev0.T a s K), (10, fun a s K => SLBelN.T a s K ∨ SLBel0.T a s K), (11, fun a s K => SLAboN.T a s K ∨ SLAbo0.T a s K),
    (12, SRLevels.T), (13, SRBelow.T), (14, SRAbove.T), (16, SEdgesG.T), (15, SSame.T)]) :=
  conOf_cons (LSpec.call SEdges3_nt SEdges3_ok) (conOf_cons (LSpec.call SKnown_nt SKnown_ok) (conOf_cons (LSpec.call SMadeZ_nt SMadeZ_ok) (conOf_cons (LSpec.call SRNodes_nt SRNodes_ok) (conOf_cons (LSpec.call SRKey_nt SRKey_ok)
    (conOf_cons (orC (LSpec.call SLLev_nt SLLev_ok) (LSpec.call SLLev0_nt SLLev0_ok)) (conOf_cons (orC (LSpec.call SLBelN_nt SLBelN_ok) (LSpec.call SLBel0_nt SLBel0_ok)) (conOf_cons (orC (LSpec.call SLAboN_nt SLAboN_ok) (LSpec.call SLAbo0_nt SLAbo0_ok))
    (conOf_cons (LSpec.call SRLevels_nt SRLevels_ok) (conOf_cons (LSpec.call SRBelow_nt SRBelow_ok) (conOf_cons (LSpec.call SRAbove_nt SRAbove_ok) (conOf_cons (LSpec.call SEdgesG_nt SEdgesG_ok) (conOf_cons (LSpec.call SSame_nt SSame_ok) conOf_nil))))))))))))
def SLevelsL : LSpec where
  X := (Nat → Option Obj) × (Option (Nat × Nat) × Nat × List Ed) × Bs
  k := 1
  pre x := ZE x.1 x.2.1.1 x.2.1.2.2
  args x θ := [.zsl (θ 0) x.2.1.1 2 x.2.1.2.2.length x.2.1.2.1, .str x.2.2]
  objs x _ := [fzO x.1]
  out x _ R := R (.sb true) [some (fzO x.1)]
theorem few3_up2 {n m : Nat} {l : List Ed} (h : few3 n l) (hn : n ≤ m) : few3 m l := ⟨Nat.le_trans h.1 hn, h.2⟩
theorem SLevelsL_top : SLevelsL.TopZ Tryz.prog 3 := by
  refine LSpec.topZ (md := false) [] noGo mixed conLL Tryz.func3 rfl (by kernel_rfl) fun ⟨Z, ⟨zp, zc, l⟩, key⟩ R hz hR => ?_
  have hz : ZE Z zp l := hz
  have hQ : R (.sb true) [some (fzO Z)] := hR
  (conv => whnf)
  refine ⟨(Z, zp, zc, l), [0], hz, rfl, by (repeat' (first | exact True.intro | rfl | assumption | exact mc_ok rfl | exact mr_ok | exact fun _ => rfl | exact mt_keep _ _ | exact ms_ok | exact c_keep _ _ _ | (refine And.intro ?_ ?_) | (intro _ _; rfl) | ((conv => whnf); (first | exact True.intro | (refine And.intro ?_ ?_))))), by (repeat' (first | exact True.intro | rfl | assumption | exact mc_ok rfl | exact mr_ok | exact fun _ => rfl | exact mt_keep _ _ | exact ms_ok | exact c_keep _ _ _ | (refine And.intro ?_ ?_) | (intro _ _; rfl) | ((conv => whnf); (first | exact True.intro | (refine And.intro ?_ ?_))))), fun bo hbo => ?_⟩
  have hbo : bo = true → few3 50 l := hbo
  (conv => whnf)
  constructor
  · intro h1
    have hf : few3 50 l := hbo (not_f h1)
    (conv => whnf)
    constructor
    · intro h2
      (conv => whnf)
      refine ⟨(), [], trivial, rfl, by (repeat' (first | exact True.intro | rfl | assumption | exact mc_ok rfl | exact mr_ok | exact fun _ => rfl | exact mt_keep _ _ | exact ms_ok | exact c_keep _ _ _ | (refine And.intro ?_ ?_) | (intro _ _; rfl) | ((conv => whnf); (first | exact True.intro | (refine And.intro ?_ ?_))))), by (repeat' (first | exact True.intro | rfl | assumption | exact mc_ok rfl | exact mr_ok | exact fun _ => rfl | exact mt_keep _ _ | exact ms_ok | exact c_keep _ _ _ | (refine And.intro ?_ ?_) | (intro _ _; rfl) | ((conv => whnf); (first | exact True.intro | (refine And.intro ?_ ?_))))), ?_⟩
      (conv => whnf)
      refine ⟨[], _, _, hQ, ?_⟩
      (repeat' (first | exact True.intro | rfl | assumption | exact mc_ok rfl | exact mr_ok | exact fun _ => rfl | exact mt_keep _ _ | exact ms_ok | exact c_keep _ _ _ | (refine And.intro ?_ ?_) | (intro _ _; rfl) | ((conv => whnf); (first | exact True.intro | (refine And.intro ?_ ?_)))))
    · intro h2
      have h2 : key.size ≤ 300 := by have : ¬ (300 : Int) < (key.size : Int) := of_decide_eq_false h2; omega
      (conv => whnf)
      refine ⟨(Z, zp, zc, l), [0], ⟨hz, few3_up2 hf (by omega)⟩, rfl, by (repeat' (first | exact True.intro | rfl | assumption | exact mc_ok rfl | exact mr_ok | exact fun _ => rfl | exact mt_keep _ _ | exact ms_ok | exact c_keep _ _ _ | (refine And.intro ?_ ?_) | (intro _ _; rfl) | ((conv => whnf); (first | exact True.intro | (refine And.intro ?_ ?_))))), by (repeat' (first | exact True.intro | rfl | assumption | exact mc_ok rfl | exact mr_ok | exact fun _ => rfl | exact mt_keep _ _ | exact ms_ok | exact c_keep _ _ _ | (refine And.intro ?_ ?_) | (intro _ _; rfl) | ((conv => whnf); (first | exact True.intro | (refine And.intro ?_ ?_))))), fun g0 hG0 => ?_⟩
      have hG0 : MG 1000 1000 (mkE l) 250 g0 := hG0
      have hml : (mkE l).length ≤ 50 := Nat.le_trans (mkE_len l) hf.1
      have hnl : (ndK (mkE l)).length ≤ 100 := by have := ndK_len (E := mkE l); omega
      have hac : Ac (mkE l) := mkE_ac l (by have := hf.1; omega)
      generalize mkE l = E at *
      (conv => whnf)
      refine ⟨(1000, 1000, E), [6], by show E.length ≤ 10000; omega, rfl, by (repeat' (first | exact True.intro | rfl | assumption | exact mc_ok rfl | exact mr_ok | exact fun _ => rfl | exact mt_keep _ _ | exact ms_ok | exact c_keep _ _ _ | (refine And.intro ?_ ?_) | (intro _ _; rfl) | ((conv => whnf); (first | exact True.intro | (refine And.intro ?_ ?_))))), by (repeat' (first | exact True.intro | rfl | assumption | exact mc_ok rfl | exact mr_ok | exact fun _ => rfl | exact mt_keep _ _ | exact ms_ok | exact c_keep _ _ _ | (refine And.intro ?_ ?_) | (intro _ _; rfl) | ((conv => whnf); (first | exact True.intro | (refine And.intro ?_ ?_))))), ?_⟩
      refine exLet (key :: ndK E) fun W hW => ?_
      have hWl : W.length = 1 + (ndK E).length := by rw [hW, List.length_cons]; omega
      (conv => whnf)
      refine ⟨some (fun q => [.str (W.getD q eS)]), ?_⟩
      (conv => whnf)
      refine ⟨by show 0 + (ndK E).length ≤ (ndK E).length; omega, by show 0 + 1 ≤ 1; omega, by show (1 + (ndK E).length) * (16 + 1) ≤ 1000000000; omega, fun q hq => ?_, ?_⟩
      · show ([V.str (W.getD q eS)] : List V) = appF 1 (fun q => chunk [.str key] 1 (0 + q)) (fun q => [V.str ((ndK E).getD (0 + q) eS)]) q
        rw [hW]
        cases q with
        | zero => rfl
        | succ q => rw [appF_ge (by omega), show 0 + (q + 1 - 1) = q by omega]; rfl
      (conv => whnf)
      refine .inl ⟨GG × Nat, fun x => [(5, .ptr 1 0), (6, .ptr 7 0), (29, .sl 8 0 1 W.length false), (30, i64 W.length), (31, i64 x.2)], fun x => (some (fzO Z) :: x.1.all fun i => i + 1) ++ [some (edR E), some (gcO 6 1000 1000 E), some (stR W)], fun x => W.length - x.2, fun x => x.2 ≤ W.length ∧ MG 1000 1000 E (250 + 4 * (x.2 : Int)) x.1, 9, ⟨(g0, 0), [some 1, some 2, some 3, some 4, some 5, some 6, some 7, some 10], ⟨Nat.zero_le _, by rw [show (250 + 4 * (((g0, (0 : Nat)).2 : Nat) : Int)) = 250 from rfl]; exact hG0⟩, ?_⟩, fun _ => rfl, fun ⟨g, i⟩ ⟨hi, hG⟩ => ?_⟩
      · (repeat' (first | exact True.intro | rfl | assumption | exact mc_ok rfl | exact mr_ok | exact fun _ => rfl | exact mt_keep _ _ | exact ms_ok | exact c_keep _ _ _ | (refine And.intro ?_ ?_) | (intro _ _; rfl) | ((conv => whnf); (first | exact True.intro | (refine And.intro ?_ ?_)))))
        all_goals exact congrArg (fun n : Nat => (n : Int)) hWl
      have hi : i ≤ W.length := hi
      have hG : MG 1000 1000 E (250 + 4 * (i : Int)) g := hG
      have ei := zero_add_toNat i
      (conv => whnf)
      constructor
      · intro h
        have h : i < W.length := by have : (i : Int) < (W.length : Int) := of_decide_eq_true h; omega
        refine exLet (W.getD (0 + (i : Int).toNat) eS) fun k hk => ?_
        have hks : k.size ≤ 1000000 := by
          rw [hk, ei, hW]
          have hm : (key :: ndK E).getD i eS ∈ key :: ndK E := by
            rw [← hW, List.getD_eq_getElem?_getD, List.getElem?_eq_getElem h]; exact List.getElem_mem h
          rcases List.mem_cons.1 hm with q | q
          · rw [q]; omega
          · have := (validK_iff.1 (nodes_valid hG0.valid q)).2
            have : ((key :: ndK E).getD i eS).size ≤ 250 := this
            omega
        refine exLet (250 + 4 * (i : Int)) fun s hs => ?_
        rw [← hs] at hG
        have hsl : s + 4 < 100000000 := by rw [hs]; omega
        have hs4 : s + 1 + 2 + 1 = 250 + 4 * ((i + 1 : Nat) : Int) := by rw [hs]; omega
        have hX0 : GXok (g, E, s) := ⟨hG, by show E.length ≤ 300; omega, by show s < 100000000; omega⟩
        have wi := wrap_inc h (by omega)
        (conv => whnf)
        refine ⟨by show (0 : Int) ≤ (i : Int); omega, by show (i : Int) < (W.length : Int); omega, ?_⟩
        (conv => whnf)
        refine ⟨by rw [ei]; exact h, ?_⟩
        (conv => whnf)
        rw [← hk]
        refine ⟨k, [], trivial, rfl, by (repeat' (first | exact True.intro | rfl | assumption | exact mc_ok rfl | exact mr_ok | exact fun _ => rfl | exact mt_keep _ _ | exact ms_ok | exact c_keep _ _ _ | (refine And.intro ?_ ?_) | (intro _ _; rfl) | ((conv => whnf); (first | exact True.intro | (refine And.intro ?_ ?_))))), by (repeat' (first | exact True.intro | rfl | assumption | exact mc_ok rfl | exact mr_ok | exact fun _ => rfl | exact mt_keep _ _ | exact ms_ok | exact c_keep _ _ _ | (refine And.intro ?_ ?_) | (intro _ _; rfl) | ((conv => whnf); (first | exact True.intro | (refine And.intro ?_ ?_))))), ?_⟩
        (conv => whnf)
        constructor
        · intro h3
          have h3 : validK k = false := not_t h3
          have he : eK k = 2 := by unfold eK; rw [h3]; rfl
          have hle : levE E k = [] := by unfold levE; rw [h3]; rfl
          have hbe : belE E k = [] := by unfold belE; rw [hle]; rfl
          have hae : aboE E k = [] := by unfold aboE; rw [h3]; rfl
          (conv => whnf)
          refine .inr ⟨((g, E, s), k, 2), [1, 2, 3, 4, 5], ⟨hX0, hks, hle, he⟩, rfl, by (repeat' (first | exact True.intro | rfl | assumption | exact mc_ok rfl | exact mr_ok | exact fun _ => rfl | exact mt_keep _ _ | exact ms_ok | exact c_keep _ _ _ | (refine And.intro ?_ ?_) | (intro _ _; rfl) | ((conv => whnf); (first | exact True.intro | (refine And.intro ?_ ?_))))), by (repeat' (first | exact True.intro | rfl | assumption | exact mc_ok rfl | exact mr_ok | exact fun _ => rfl | exact mt_keep _ _ | exact ms_ok | exact c_keep _ _ _ | (refine And.intro ?_ ?_) | (intro _ _; rfl) | ((conv => whnf); (first | exact True.intro | (refine And.intro ?_ ?_))))), fun g1 hG1 => ?_⟩
          have hG1 : MG 1000 1000 E (s + 1) g1 := hG1
          have hX1 : GXok (g1, E, s + 1) := ⟨hG1, by show E.length ≤ 300; omega, by show s + 1 < 100000000; omega⟩
          (conv => whnf)
          refine ⟨fun _ => ?_, fun hh => absurd hh (by decide)⟩
          (conv => whnf)
          refine .inr ⟨((g1, E, s + 1), k, [], 2), [1, 2, 3, 4, 5], ⟨⟨hX1, by show s + 1 + 2 < 100000000; omega⟩, hks, hbe, he, rfl⟩, rfl, by (repeat' (first | exact True.intro | rfl | assumption | exact mc_ok rfl | exact mr_ok | exact fun _ => rfl | exact mt_keep _ _ | exact ms_ok | exact c_keep _ _ _ | (refine And.intro ?_ ?_) | (intro _ _; rfl) | ((conv => whnf); (first | exact True.intro | (refine And.intro ?_ ?_))))), by (repeat' (first | exact True.intro | rfl | assumption | exact mc_ok rfl | exact mr_ok | exact fun _ => rfl | exact mt_keep _ _ | exact ms_ok | exact c_keep _ _ _ | (refine And.intro ?_ ?_) | (intro _ _; rfl) | ((conv => whnf); (first | exact True.intro | (refine And.intro ?_ ?_))))), fun g2 hG2 => ?_⟩
          have hG2 : MG 1000 1000 E (s + 1 + 2) g2 := hG2
          have hX2 : GXok (g2, E, s + 1 + 2) := ⟨hG2, by show E.length ≤ 300; omega, by show s + 1 + 2 < 100000000; omega⟩
          (conv => whnf)
          refine ⟨fun _ => ?_, fun hh => absurd hh (by decide)⟩
          (conv => whnf)
          refine .inr ⟨((g2, E, s + 1 + 2), k, [], 2), [1, 2, 3, 4, 5], ⟨⟨hX2, by show s + 1 + 2 + 2 < 100000000; omega⟩, hks, hae, he, rfl⟩, rfl, by (repeat' (first | exact True.intro | rfl | assumption | exact mc_ok rfl | exact mr_ok | exact fun _ => rfl | exact mt_keep _ _ | exact ms_ok | exact c_keep _ _ _ | (refine And.intro ?_ ?_) | (intro _ _; rfl) | ((conv => whnf); (first | exact True.intro | (refine And.intro ?_ ?_))))), by (repeat' (first | exact True.intro | rfl | assumption | exact mc_ok rfl | exact mr_ok | exact fun _ => rfl | exact mt_keep _ _ | exact ms_ok | exact c_keep _ _ _ | (refine And.intro ?_ ?_) | (intro _ _; rfl) | ((conv => whnf); (first | exact True.intro | (refine And.intro ?_ ?_))))), fun g3 hG3 => ?_⟩
          have hG3 : MG 1000 1000 E (s + 1 + 2 + 1) g3 := hG3
          rw [hs4] at hG3
          (conv => whnf)
          refine ⟨fun hh => absurd hh (by decide), fun _ => ?_⟩
          (conv => whnf)
          refine ⟨(g3, i + 1), [some 1, some 2, some 3, some 4, some 5, some 6, some 7, some 8], by show W.length - (i + 1) < W.length - i; omega, ⟨by show i + 1 ≤ W.length; omega, hG3⟩, ?_⟩
          (repeat' (first | exact True.intro | rfl | assumption | exact mc_ok rfl | exact mr_ok | exact fun _ => rfl | exact mt_keep _ _ | exact ms_ok | exact c_keep _ _ _ | (refine And.intro ?_ ?_) | (intro _ _; rfl) | ((conv => whnf); (first | exact True.intro | (refine And.intro ?_ ?_)))))
          all_goals exact wi.symm
        · intro h3
          have h3 : validK k = true := not_f h3
          have he : eK k = 0 := by unfold eK; rw [h3]; rfl
          have hle : levE E k = levK (chE E) k := by unfold levE; rw [h3]; rfl
          have hbe : belE E k = (levK (chE E) k).flatten := by unfold belE; rw [hle]
          have hae : aboE E k = upE E k (ndK E) := (upE_eq hac (by omega) h3).symm
          (conv => whnf)
          refine ⟨((1000, 1000, E), k), [6], by show E.length ≤ 1000; omega, rfl, by (repeat' (first | exact True.intro | rfl | assumption | exact mc_ok rfl | exact mr_ok | exact fun _ => rfl | exact mt_keep _ _ | exact ms_ok | exact c_keep _ _ _ | (refine And.intro ?_ ?_) | (intro _ _; rfl) | ((conv => whnf); (first | exact True.intro | (refine And.intro ?_ ?_))))), by (repeat' (first | exact True.intro | rfl | assumption | exact mc_ok rfl | exact mr_ok | exact fun _ => rfl | exact mt_keep _ _ | exact ms_ok | exact c_keep _ _ _ | (refine And.intro ?_ ?_) | (intro _ _; rfl) | ((conv => whnf); (first | exact True.intro | (refine And.intro ?_ ?_))))), fun M O hO hI => ?_⟩
          have hO : levs O = levK (chE E) k := hO
          have hI : OI M O := hI
          (conv => whnf)
          refine .inl ⟨((g, E, s), k, (M, O), 0), [1, 2, 3, 4, 5, 9, 10], ⟨hX0, hks, by show levs O = levE E k; rw [hle]; exact hO, hI, he⟩, rfl, by (repeat' (first | exact True.intro | rfl | assumption | exact mc_ok rfl | exact mr_ok | exact fun _ => rfl | exact mt_keep _ _ | exact ms_ok | exact c_keep _ _ _ | (refine And.intro ?_ ?_) | (intro _ _; rfl) | ((conv => whnf); (first | exact True.intro | (refine And.intro ?_ ?_))))), by (repeat' (first | exact True.intro | rfl | assumption | exact mc_ok rfl | exact mr_ok | exact fun _ => rfl | exact mt_keep _ _ | exact ms_ok | exact c_keep _ _ _ | (refine And.intro ?_ ?_) | (intro _ _; rfl) | ((conv => whnf); (first | exact True.intro | (refine And.intro ?_ ?_))))), fun g1 hG1 => ?_⟩
          have hG1 : MG 1000 1000 E (s + 1) g1 := hG1
          have hX1 : GXok (g1, E, s + 1) := ⟨hG1, by show E.length ≤ 300; omega, by show s + 1 < 100000000; omega⟩
          (conv => whnf)
          refine ⟨fun _ => ?_, fun hh => absurd hh (by decide)⟩
          (conv => whnf)
          refine ⟨((1000, 1000, E), k), [6], by show E.length ≤ 1000; omega, rfl, by (repeat' (first | exact True.intro | rfl | assumption | exact mc_ok rfl | exact mr_ok | exact fun _ => rfl | exact mt_keep _ _ | exact ms_ok | exact c_keep _ _ _ | (refine And.intro ?_ ?_) | (intro _ _; rfl) | ((conv => whnf); (first | exact True.intro | (refine And.intro ?_ ?_))))), by (repeat' (first | exact True.intro | rfl | assumption | exact mc_ok rfl | exact mr_ok | exact fun _ => rfl | exact mt_keep _ _ | exact ms_ok | exact c_keep _ _ _ | (refine And.intro ?_ ?_) | (intro _ _; rfl) | ((conv => whnf); (first | exact True.intro | (refine And.intro ?_ ?_))))), ?_⟩
          (conv => whnf)
          refine .inl ⟨((g1, E, s + 1), k, (levK (chE E) k).flatten, 0), [1, 2, 3, 4, 5, 11], ⟨⟨hX1, by show s + 1 + 2 < 100000000; omega⟩, hks, hbe, he⟩, rfl, by (repeat' (first | exact True.intro | rfl | assumption | exact mc_ok rfl | exact mr_ok | exact fun _ => rfl | exact mt_keep _ _ | exact ms_ok | exact c_keep _ _ _ | (refine And.intro ?_ ?_) | (intro _ _; rfl) | ((conv => whnf); (first | exact True.intro | (refine And.intro ?_ ?_))))), by (repeat' (first | exact True.intro | rfl | assumption | exact mc_ok rfl | exact mr_ok | exact fun _ => rfl | exact mt_keep _ _ | exact ms_ok | exact c_keep _ _ _ | (refine And.intro ?_ ?_) | (intro _ _; rfl) | ((conv => whnf); (first | exact True.intro | (refine And.intro ?_ ?_))))), fun g2 hG2 => ?_⟩
          have hG2 : MG 1000 1000 E (s + 1 + 2) g2 := hG2
          have hX2 : GXok (g2, E, s + 1 + 2) := ⟨hG2, by show E.length ≤ 300; omega, by show s + 1 + 2 < 100000000; omega⟩
          (conv => whnf)
          refine ⟨fun _ => ?_, fun hh => absurd hh (by decide)⟩
          (conv => whnf)
          refine ⟨((1000, 1000, E), k), [6], by show E.length ≤ 1000; omega, rfl, by (repeat' (first | exact True.intro | rfl | assumption | exact mc_ok rfl | exact mr_ok | exact fun _ => rfl | exact mt_keep _ _ | exact ms_ok | exact c_keep _ _ _ | (refine And.intro ?_ ?_) | (intro _ _; rfl) | ((conv => whnf); (first | exact True.intro | (refine And.intro ?_ ?_))))), by (repeat' (first | exact True.intro | rfl | assumption | exact mc_ok rfl | exact mr_ok | exact fun _ => rfl | exact mt_keep _ _ | exact ms_ok | exact c_keep _ _ _ | (refine And.intro ?_ ?_) | (intro _ _; rfl) | ((conv => whnf); (first | exact True.intro | (refine And.intro ?_ ?_))))), ?_⟩
          (conv => whnf)
          refine .inl ⟨((g2, E, s + 1 + 2), k, upE E k (ndK E), 0), [1, 2, 3, 4, 5, 12], ⟨⟨hX2, by show s + 1 + 2 + 2 < 100000000; omega⟩, hks, hae, he⟩, rfl, by (repeat' (first | exact True.intro | rfl | assumption | exact mc_ok rfl | exact mr_ok | exact fun _ => rfl | exact mt_keep _ _ | exact ms_ok | exact c_keep _ _ _ | (refine And.intro ?_ ?_) | (intro _ _; rfl) | ((conv => whnf); (first | exact True.intro | (refine And.intro ?_ ?_))))), by (repeat' (first | exact True.intro | rfl | assumption | exact mc_ok rfl | exact mr_ok | exact fun _ => rfl | exact mt_keep _ _ | exact ms_ok | exact c_keep _ _ _ | (refine And.intro ?_ ?_) | (intro _ _; rfl) | ((conv => whnf); (first | exact True.intro | (refine And.intro ?_ ?_))))), fun g3 hG3 => ?_⟩
          have hG3 : MG 1000 1000 E (s + 1 + 2 + 1) g3 := hG3
          rw [hs4] at hG3
          (conv => whnf)
          refine ⟨fun hh => absurd hh (by decide), fun _ => ?_⟩
          (conv => whnf)
          refine ⟨(g3, i + 1), [some 1, some 2, some 3, some 4, some 5, some 6, some 7, some 8], by show W.length - (i + 1) < W.length - i; omega, ⟨by show i + 1 ≤ W.length; omega, hG3⟩, ?_⟩
          (repeat' (first | exact True.intro | rfl | assumption | exact mc_ok rfl | exact mr_ok | exact fun _ => rfl | exact mt_keep _ _ | exact ms_ok | exact c_keep _ _ _ | (refine And.intro ?_ ?_) | (intro _ _; rfl) | ((conv => whnf); (first | exact True.intro | (refine And.intro ?_ ?_)))))
          all_goals exact wi.symm
      · intro h
        (conv => whnf)
        refine ⟨(g, E), [1, 2, 3, 4, 5], ⟨⟨hG.gu.gt, hG.gu.n1⟩, hG.pu, hG.rel, by show E.length ≤ 70000; omega⟩, rfl, by (repeat' (first | exact True.intro | rfl | assumption | exact mc_ok rfl | exact mr_ok | exact fun _ => rfl | exact mt_keep _ _ | exact ms_ok | exact c_keep _ _ _ | (refine And.intro ?_ ?_) | (intro _ _; rfl) | ((conv => whnf); (first | exact True.intro | (refine And.intro ?_ ?_))))), by (repeat' (first | exact True.intro | rfl | assumption | exact mc_ok rfl | exact mr_ok | exact fun _ => rfl | exact mt_keep _ _ | exact ms_ok | exact c_keep _ _ _ | (refine And.intro ?_ ?_) | (intro _ _; rfl) | ((conv => whnf); (first | exact True.intro | (refine And.intro ?_ ?_))))), ?_⟩
        (conv => whnf)
        (repeat (first | refine And.intro rfl ?_ | fail))
        (conv => whnf)
        refine ⟨E, [9, 6], by show E.length ≤ 1000000; omega, rfl, by (repeat' (first | exact True.intro | rfl | assumption | exact mc_ok rfl | exact mr_ok | exact fun _ => rfl | exact mt_keep _ _ | exact ms_ok | exact c_keep _ _ _ | (refine And.intro ?_ ?_) | (intro _ _; rfl) | ((conv => whnf); (first | exact True.intro | (refine And.intro ?_ ?_))))), by (repeat' (first | exact True.intro | rfl | assumption | exact mc_ok rfl | exact mr_ok | exact fun _ => rfl | exact mt_keep _ _ | exact ms_ok | exact c_keep _ _ _ | (refine And.intro ?_ ?_) | (intro _ _; rfl) | ((conv => whnf); (first | exact True.intro | (refine And.intro ?_ ?_))))), ?_⟩
        (conv => whnf)
        (repeat (first | refine And.intro rfl ?_ | fail))
        (conv => whnf)
        refine ⟨fun _ => ?_, fun hh => absurd hh (by decide)⟩
        (conv => whnf)
        refine ⟨(), [], trivial, rfl, by (repeat' (first | exact True.intro | rfl | assumption | exact mc_ok rfl | exact mr_ok | exact fun _ => rfl | exact mt_keep _ _ | exact ms_ok | exact c_keep _ _ _ | (refine And.intro ?_ ?_) | (intro _ _; rfl) | ((conv => whnf); (first | exact True.intro | (refine And.intro ?_ ?_))))), by (repeat' (first | exact True.intro | rfl | assumption | exact mc_ok rfl | exact mr_ok | exact fun _ => rfl | exact mt_keep _ _ | exact ms_ok | exact c_keep _ _ _ | (refine And.intro ?_ ?_) | (intro _ _; rfl) | ((conv => whnf); (first | exact True.intro | (refine And.intro ?_ ?_))))), ?_⟩
        (conv => whnf)
        refine ⟨[], _, _, hQ, ?_⟩
        (repeat' (first | exact True.intro | rfl | assumption | exact mc_ok rfl | exact mr_ok | exact fun _ => rfl | exact mt_keep _ _ | exact ms_ok | exact c_keep _ _ _ | (refine And.intro ?_ ?_) | (intro _ _; rfl) | ((conv => whnf); (first | exact True.intro | (refine And.intro ?_ ?_)))))
  · intro h1
    (conv => whnf)
    refine ⟨(), [], trivial, rfl, by (repeat' (first | exact True.intro | rfl | assumption | exact mc_ok rfl | exact mr_ok | exact fun _ => rfl | exact mt_keep _ _ | exact ms_ok | exact c_keep _ _ _ | (refine And.intro ?_ ?_) | (intro _ _; rfl) | ((conv => whnf); (first | exact True.intro | (refine And.intro ?_ ?_))))), by (repeat' (first | exact True.intro | rfl | assumption | exact mc_ok rfl | exact mr_ok | exact fun _ => rfl | exact mt_keep _ _ | exact ms_ok | exact c_keep _ _ _ | (refine And.intro ?_ ?_) | (intro _ _; rfl) | ((conv => whnf); (first | exact True.intro | (refine And.intro ?_ ?_))))), ?_⟩
    (conv => whnf)
    refine ⟨[], _, _, hQ, ?_⟩
    (repeat' (first | exact True.intro | rfl | assumption | exact mc_ok rfl | exact mr_ok | exact fun _ => rfl | exact mt_keep _ _ | exact ms_ok | exact c_keep _ _ _ | (refine And.intro ?_ ?_) | (intro _ _; rfl) | ((conv => whnf); (first | exact True.intro | (refine And.intro ?_ ?_)))))
end Go.Proofs.YtddionboojdjlaaGreat
